/- Walk of a print writer's command by itself: what tells its parts apart, its redirections, assignments and words. And what stands with it. -/
import Derived.Test.YtdfnkmiabmjolaaGreatDoorJ9
import Derived.Deep.DeepCutAuto
import Derived.Deep.CutBlock
set_option linter.unusedVariables false
set_option linter.unusedSimpArgs false
namespace Go.Proofs.YtdfnkmiabmjolaaGreatDoor
open Go.RowKit
theorem put_lit (b : Nat) (v : Value) (x : Wr) (s : ByteArray) (w : World) (h : WV b v x w) (hlen : x.out.length + s.size ≤ 1000000) :
  Calls Tryz.prog 32 #[.pointer (some ⟨b, 0, none⟩), .slice (some ⟨w.heap.size, 0, none⟩) 1 1] (w.alloc (.cells #[.string s] 9)) fun e w' => e = .returned (.tuple #[]) ∧ Wrt b v (x.put s.data.toList) w w' := by
 have hP := put_new b v x [s.data.toList] 1 1 _ w rfl rfl h (by simp only [flat, List.append_nil, len_data]; omega) (by simp)
 rw [show flat [s.data.toList] = s.data.toList by simp [flat], show (List.map (fun s => Value.string (bstr s)) [s.data.toList]).toArray = #[.string s] by simp [bstr_of]] at hP
 exact hP
theorem put_three (b : Nat) (v : Value) (x : Wr) (s t u : ByteArray) (w : World) (h : WV b v x w) (hlen : x.out.length + (s.size + t.size + u.size) ≤ 1000000) :
  Calls Tryz.prog 32 #[.pointer (some ⟨b, 0, none⟩), .slice (some ⟨w.heap.size, 0, none⟩) 3 3] (w.alloc (.cells #[.string s, .string t, .string u] 9)) fun e w' => e = .returned (.tuple #[]) ∧ Wrt b v (x.put (s.data.toList ++ (t.data.toList ++ u.data.toList))) w w' := by
 have hP := put_new b v x [s.data.toList, t.data.toList, u.data.toList] 3 3 _ w rfl rfl h (by simp only [flat, List.append_nil, List.length_append, len_data]; omega) (by simp)
 rw [show flat [s.data.toList, t.data.toList, u.data.toList] = s.data.toList ++ (t.data.toList ++ u.data.toList) by simp [flat], show (List.map (fun s => Value.string (bstr s)) [s.data.toList, t.data.toList, u.data.toList]).toArray = #[.string s, .string t, .string u] by simp [bstr_of]] at hP
 exact hP
structure Stand (b X P : Nat) (v : Value) (w1 : World) : Prop where
 hb : 0 < b
 bX : b < X
 bP : b < P
 vX : ∀ k, v.ownBlock = some k → b + 1 ≤ k ∧ k ≠ X ∧ k ≠ P
 lt : X < w1.heap.size ∧ P < w1.heap.size
 XP : X ≠ P
 row : w1.heap[X]? = some (.cells #[.pointer (some ⟨b, 0, none⟩)] 50 (0, 0))
 hm : HM w1
def SimAt (w1 : World) (b P : Nat) (v : Value) (n : Nat) (y : Wr) (wr : World) : Prop :=
 ∃ v1, WV b v1 y wr ∧ Chg (fun k => k = P ∨ k = b ∨ some k = v.ownBlock) w1 wr ∧ (v1.ownBlock = v.ownBlock ∨ ∃ g, v1.ownBlock = some g ∧ w1.heap.size ≤ g) ∧ wr.heap[P]? = some (.cells #[.int .i64 n] 3 (0, 0))
section
variable {b X P n : Nat} {v : Value} {y : Wr} {w1 wr : World}
theorem Stand.far (hs : Stand b X P v w1) : ¬ (X = P ∨ X = b ∨ some X = v.ownBlock) := by
 have h1 := hs.bX
 have h2 := hs.XP
 rintro (e | e | e)
 ·exact h2 e
 ·omega
 ·exact (hs.vX _ e.symm).2.1 rfl
theorem SimAt.own (hs : Stand b X P v w1) (h : SimAt w1 b P v n y wr) : ∃ v1, WV b v1 y wr ∧ v1.ownBlock ≠ some X ∧ v1.ownBlock ≠ some P := by
 obtain ⟨v1, hw, hc, ho, hr⟩ := h
 have hl := hs.lt
 refine ⟨v1, hw, fun e => ?_, fun e => ?_⟩
 ·rcases ho with ho | ⟨g, ho, hg⟩
  ·exact (hs.vX _ (ho.symm.trans e)).2.1 rfl
  ·rw [ho] at e; simp only [Option.some.injEq] at e; omega
 ·rcases ho with ho | ⟨g, ho, hg⟩
  ·exact (hs.vX _ (ho.symm.trans e)).2.2 rfl
  ·rw [ho] at e; simp only [Option.some.injEq] at e; omega
theorem SimAt.call (hs : Stand b X P v w1) (h : SimAt w1 b P v n y wr) {f : FuncId} {args : Array Value} {y' : Wr} {W : World} (hC : ∀ v1, WV b v1 y wr → Calls Tryz.prog f args W fun e w' => e = .returned (.tuple #[]) ∧ Wrt b v1 y' wr w') :
  Calls Tryz.prog f args W fun e w' => e = .returned (.tuple #[]) ∧ SimAt w1 b P v n y' w' := by
 obtain ⟨v1, hw, hc, ho, hr⟩ := h
 refine Calls.mono (hC v1 hw) ?_
 rintro e w' ⟨rfl, v2, hw2, hc2, ho2⟩
 have hl := hs.lt
 have hbP := hs.bP
 refine ⟨rfl, v2, hw2, hc.trans hc2 (fun k hk hl => ?_), own_next hc.size ho ho2, row_chg hr hc2 (fun e => ?_)⟩
 ·rcases hk with e | e
  ·exact .inr (.inl e)
  ·rcases ho with ho | ⟨g, ho, hg⟩
   ·exact .inr (.inr (e.trans ho))
   ·rw [ho] at e; simp only [Option.some.injEq] at e; omega
 ·rcases e with e | e
  ·omega
  ·rcases ho with ho | ⟨g, ho, hg⟩
   ·exact (hs.vX _ (ho.symm.trans e.symm)).2.2 rfl
   ·rw [ho] at e; simp only [Option.some.injEq] at e; omega
theorem SimAt.rowX (hs : Stand b X P v w1) (h : SimAt w1 b P v n y wr) : wr.heap[X]? = some (.cells #[.pointer (some ⟨b, 0, none⟩)] 50 (0, 0)) := by
 obtain ⟨v1, hw, hc, ho, hr⟩ := h
 exact row_chg hs.row hc hs.far
theorem SimAt.hm (hs : Stand b X P v w1) (h : SimAt w1 b P v n y wr) : HM wr := by
 obtain ⟨v1, hw, hc, ho, hr⟩ := h
 have h1 := hs.hb
 have h2 := hs.bP
 exact hs.hm.stay hc (fun e => by
  rcases e with e | e | e
  ·omega
  ·omega
  ·have := (hs.vX 0 e.symm).1; omega)
theorem SimAt.rep (hs : Stand b X P v w1) (h : SimAt w1 b P v n y wr) {d : D} {cs : List Value} (hd : Rep w1 (fun k => k < b) d cs) : Rep wr (fun k => k < b) d cs := by
 obtain ⟨v1, hw, hc, ho, hr⟩ := h
 have h2 := hs.bP
 exact hd.stay hc (fun k hk e => by
  rcases e with e | e | e
  ·omega
  ·omega
  ·have := (hs.vX k e.symm).1; omega)
theorem SimAt.drewN (h : SimAt w1 b P v n y wr) (m : Nat) : SimAt w1 b P v n y (wr.drewN m) := by
 obtain ⟨v1, hw, hc, ho, hr⟩ := h
 exact ⟨v1, hw.keep ((Chg.refl _ _).drewN m), hc.drewN m, ho, hr⟩
theorem SimAt.keep (hs : Stand b X P v w1) (h : SimAt w1 b P v n y wr) {w' : World} (hc2 : Chg (fun _ => False) wr w') : SimAt w1 b P v n y w' := by
 obtain ⟨v1, hw, hc, ho, hr⟩ := h
 exact ⟨v1, hw.keep hc2, hc.trans hc2 (fun k e _ => e.elim), ho, row_chg hr hc2 (fun e => e)⟩
end
set_option maxRecDepth 100000 in
set_option maxHeartbeats 4000000 in
theorem SimAt.nextC {b X P n : Nat} {v : Value} {y : Wr} {w1 wr : World} (hs : Stand b X P v w1) (h : SimAt w1 b P v n y wr) (hn : n ≤ 1000000) (hlen : y.out.length + 1 ≤ 1000000) :
  Calls Tryz.prog 80 #[.pointer (some ⟨P, 0, none⟩), .pointer (some ⟨X, 0, none⟩)] wr fun e w' => e = .returned (.tuple #[]) ∧ SimAt w1 b P v (n + 1) (y.next n) w' := by
 have hX := h.rowX hs
 have hXP := hs.XP
 obtain ⟨v0, hw0, n1, n2⟩ := h.own hs
 obtain ⟨v1, hw, hc, ho, hr⟩ := h
 have h1 : SimAt w1 b P v (n + 1) y (wr.setCell ⟨P, 0, none⟩ (.int .i64 ((n : Int) + 1))) := by
  have hcs : Chg (fun k => k = P) wr (wr.setCell ⟨P, 0, none⟩ (.int .i64 ((n : Int) + 1))) := (Chg.refl (fun k => k = P) wr).setCell (p := ⟨P, 0, none⟩) (fun _ => rfl) _
  have hbP := hs.bP
  refine ⟨v1, hw.stay hcs (by omega) (fun k hk e => ?_), hc.setCell (fun _ => .inl rfl) _, ho, row_set hr 0 _⟩
  subst e
  have hl := hs.lt
  rcases ho with ho | ⟨g, ho, hg⟩
  ·exact (hs.vX _ (ho.symm.trans hk)).2.2 rfl
  ·rw [ho] at hk; simp only [Option.some.injEq] at hk; omega
 have hX1 := row_far hX (p := ⟨P, 0, none⟩) hXP (.int .i64 ((n : Int) + 1))
 have hr1 := row_set hr 0 (.int .i64 ((n : Int) + 1))
 have f0 := row_free hr 0
 have c0 := row_cells hr 0
 have c1 := row_cells hr1 0
 have c2 := row_cells hX1 0
 have f2 := row_free hr1 0
 have r0 : IntKind.i64.wrap ((n : Int) + 1) = (n : Int) + 1 := IntWalk.i64_in _ (by omega)
 by_cases h0 : 0 < n
 ·have q0 : decide ((1 : Int) < (n : Int) + 1) = true := by simp; omega
  have hy : y.next n = y.put [32] := by rw [Wr.next, if_pos h0]
  have hPL : Hid (Calls Tryz.prog 32 #[.pointer (some ⟨b, 0, none⟩), .slice (some ⟨wr.heap.size, 0, none⟩) 1 1] ((wr.setCell ⟨P, 0, none⟩ (.int .i64 ((n : Int) + 1))).alloc (.cells #[.string ⟨#[32]⟩] 9)) fun e w' => e = .returned (.tuple #[]) ∧ SimAt w1 b P v (n + 1) (y.next n) w') := Lib.hid (by
   rw [hy]
   exact h1.call hs (fun v3 hw3 => by
    have hp := put_lit b v3 y ⟨#[32]⟩ _ hw3 (by show _ + 1 ≤ _; omega)
    rw [show (wr.setCell ⟨P, 0, none⟩ (.int .i64 ((n : Int) + 1))).heap.size = wr.heap.size by simp] at hp
    exact hp))
  clear hs h1 hy hr1 hX1 hr hw hw0 ho hX n1 n2 h0
  go_enter Tryz.func80, Tryz.ntmps80
  go_wp2_with fail
  refine Calls.mono hPL.out ?_
  rintro e w4 ⟨rfl, hS⟩
  go_wp2
  go_end0
  exact ⟨rfl, hS⟩
 ·have q0 : decide ((1 : Int) < (n : Int) + 1) = false := by simp; omega
  have hy : y.next n = y := by rw [Wr.next, if_neg h0]
  rw [hy]
  have h1 := Lib.hid h1
  clear hs hy hr1 hX1 hr hw hw0 ho hX n1 n2 h0
  go_enter Tryz.func80, Tryz.ntmps80
  go_wp2
  go_end0
  exact ⟨rfl, h1.out⟩
theorem SimAt.setBad {b X P n : Nat} {v : Value} {y : Wr} {w1 wr : World} (hs : Stand b X P v w1) (h : SimAt w1 b P v n y wr) (bad : Bool) : SimAt w1 b P v n ⟨y.out, bad⟩ (wr.setCell ⟨b, 2, none⟩ (.bool bad)) := by
 obtain ⟨v1, hw, hc, ho, hr⟩ := h
 have hbP := hs.bP
 exact ⟨v1, hw.setBad bad, hc.setCell (fun _ => .inr (.inl rfl)) _, ho, row_far hr (p := ⟨b, 2, none⟩) (by simp; omega) _⟩
theorem SimAt.bads {b P n : Nat} {v : Value} {y : Wr} {w1 wr : World} (h : SimAt w1 b P v n y wr) : wr.cell? ⟨b, 2, none⟩ = some (.bool y.bad) ∧ wr.frozen? ⟨b, 2, none⟩ = false := by
 obtain ⟨v1, hw, hc, ho, hr⟩ := h
 exact hw.row
theorem SimAt.rowAt {b P n Y : Nat} {v : Value} {y : Wr} {w1 wr : World} {o : Obj} (h : SimAt w1 b P v n y wr) (hrow : w1.heap[Y]? = some o) (hf : ¬ (Y = P ∨ Y = b ∨ some Y = v.ownBlock)) : wr.heap[Y]? = some o := by
 obtain ⟨v1, hw, hc, ho, hr⟩ := h
 exact row_chg hrow hc hf
theorem SimAt.cellAt {b X P n : Nat} {v : Value} {y : Wr} {w1 wr : World} (hs : Stand b X P v w1) (h : SimAt w1 b P v n y wr) {b1 o : Nat} {u : Value} (hb : b1 < b) (hc1 : w1.cell? ⟨b1, o, none⟩ = some u) : wr.cell? ⟨b1, o, none⟩ = some u := by
 obtain ⟨v1, hw, hc, ho, hr⟩ := h
 have h2 := hs.bP
 exact hc.cell hc1 (fun e => by
  rcases e with e | e | e
  ·simp only at e; omega
  ·simp only at e; omega
  ·have := (hs.vX _ e.symm).1; simp only at this; omega)
theorem SimAt.base {b X P n : Nat} {v : Value} {y : Wr} {w1 wr : World} (hs : Stand b X P v w1) (h : SimAt w1 b P v n y wr) (o : Obj) :
  ∃ v1, Stand b X P v1 (wr.alloc o) ∧ SimAt (wr.alloc o) b P v1 n y (wr.alloc o) ∧ (¬ (wr.heap.size = P ∨ wr.heap.size = b ∨ some wr.heap.size = v1.ownBlock)) ∧ ∀ n' y' w', SimAt (wr.alloc o) b P v1 n' y' w' → SimAt w1 b P v n' y' w' := by
 have hX := h.rowX hs
 have hhm := h.hm hs
 obtain ⟨v1, hw, hc, ho, hr⟩ := h
 have hl := hs.lt
 have hz := hc.size
 have hown := hw.own
 have hbP := hs.bP
 have hca : Chg (fun _ => False) wr (wr.alloc o) := (Chg.refl _ wr).alloc o
 have hza : (wr.alloc o).heap.size = wr.heap.size + 1 := by simp
 have hne : ∀ k, v1.ownBlock = some k → k ≠ X ∧ k ≠ P := fun k e => by
  rcases ho with ho | ⟨g, ho, hg⟩
  ·exact (hs.vX k (ho.symm.trans e)).2
  ·rw [ho] at e; simp only [Option.some.injEq] at e; omega
 refine ⟨v1, ⟨hs.hb, hs.bX, hs.bP, fun k e => ⟨(hown k e).1, hne k e⟩, by omega, hs.XP, row_alloc hX o, hhm.stay hca (fun e => e)⟩, ⟨v1, hw.keep hca, Chg.refl _ _, .inl rfl, row_alloc hr o⟩, ?_, ?_⟩
 ·rintro (e | e | e)
  ·omega
  ·have := hw.lt; omega
  ·have := (hown _ e.symm).2; omega
 ·rintro n' y' w' ⟨v2, hw2, hc2, ho2, hr2⟩
  refine ⟨v2, hw2, (hc.trans hca (fun k e _ => e.elim)).trans hc2 (fun k hk hl => ?_), own_next (w1 := wr.alloc o) (by omega) ho ho2, hr2⟩
  rcases hk with e | e | e
  ·exact .inl e
  ·exact .inr (.inl e)
  ·rcases ho with ho | ⟨g, ho, hg⟩
   ·exact .inr (.inr (e.trans ho))
   ·rw [ho] at e; simp only [Option.some.injEq] at e; omega
theorem greatWords_len (ws : List (List Part)) : ws.length ≤ greatWords ws := Nat.le_add_right _ _
theorem drop_cons {α : Type} {l : List α} {k : Nat} {a : α} (h : l[k]? = some a) : l.drop k = a :: l.drop (k + 1) := by
 obtain ⟨hlt, rfl⟩ := List.getElem?_eq_some_iff.1 h
 rw [List.drop_eq_getElem_cons hlt]
theorem SimAt.drew {b P n : Nat} {v : Value} {y : Wr} {w1 wr : World} (h : SimAt w1 b P v n y wr) : SimAt w1 b P v n y wr.drew := by
 obtain ⟨v1, hw, hc, ho, hr⟩ := h
 exact ⟨v1, hw.keep (Chg.refl _ _).drew, hc.drew, ho, hr⟩
theorem alloc_drew (w : World) (o : Obj) : w.drew.alloc o = (w.alloc o).drew := rfl
set_option maxRecDepth 100000 in
set_option maxHeartbeats 8000000 in
theorem wsimple_calls (b : Nat) (v : Value) (x : Wr) (w : World) (kd : Int) (nm : Bytes) (xs : List Asg) (ws : List (List Part)) (co bo ot : List Lst) (ca : List Cas) (rs : List Rdr) (cs : List Value) (h : WV b v x w) (hb : 0 < b) (hm : HM w)
  (hfd : ∀ r ∈ rs, -9223372036854775808 ≤ r.fd ∧ r.fd ≤ 9223372036854775807)
  (hlen : x.out.length + 32 * (rs.length + (rs.map Rdr.great).sum + xs.length + (xs.map Asg.great).sum + greatWords ws) ≤ 600000)
  (hr : Rep w (fun k => k < b) (Cmd.d (.mk kd nm xs ws co bo ot ca rs)) cs) :
  Calls Tryz.prog 64 #[.pointer (some ⟨b, 0, none⟩), .agg cs.toArray] w fun e w' => e = .returned (.tuple #[]) ∧ Wrt b v (x.simple xs ws rs) w w' := by
 have hmf : ∀ (fn : Fn) (first cap : Array Value) (w : World), (Instr.makeFunc fn first cap).run Tryz.prog w = .ok (.func fn first cap) w := fun _ _ _ _ => rfl
 obtain ⟨v1, v2, v3, v4, v5, v6, v7, rfl, hr1, hr2, hr3, hr4, hr5, hr6, hr7⟩ := cmd_rep.1 hr
 clear hr hr3 hr4 hr5 hr6
 obtain ⟨A1, c1, rfl⟩ := sl_form2 hr1
 obtain ⟨A2, c2, rfl⟩ := sl_form2 hr2
 obtain ⟨A7, c7, rfl⟩ := sl_form2 hr7
 simp only [List.length_map] at *
 generalize bstr nm = nb at *
 generalize hR1 : sRedirs 0 x rs = R1
 generalize hR2 : sAsgs rs.length R1 xs = R2
 have hR3 : x.simple xs ws rs = sWords (rs.length + xs.length) R2 ws := by rw [Wr.simple, hR1, hR2]
 have hl1 := sRedirs_len rs 0 x
 have hl2 := sAsgs_len xs rs.length R1
 rw [hR1] at hl1
 rw [hR2] at hl2
 have HR1 := Lib.hid hR1; clear hR1
 have HR2 := Lib.hid hR2; clear hR2
 have HR3 := Lib.hid hR3; clear hR3
 generalize x.simple xs ws rs = R3 at *
 have hown := h.own
 have hblt := h.lt
 go_enter Tryz.func64, Tryz.ntmps64
 go_upto_block 0 with fail
 have hC0 : Chg (fun _ => False) w (((w.alloc (.cells #[.pointer (some ⟨b, 0, none⟩)] 50)).alloc (.cells #[.int .i64 kd, .string nb, .slice A1 xs.length c1, .slice A2 ws.length c2, v3, v4, v5, v6, .slice A7 rs.length c7] 49)).alloc (.cells #[.int .i64 0] 3)) := (((Chg.refl (fun _ => False) w).alloc _).alloc _).alloc _
 have hrX := row_alloc (row_alloc (row_new w (.cells #[.pointer (some ⟨b, 0, none⟩)] 50)) (.cells #[.int .i64 kd, .string nb, .slice A1 xs.length c1, .slice A2 ws.length c2, v3, v4, v5, v6, .slice A7 rs.length c7] 49)) (.cells #[.int .i64 0] 3)
 have hrY := row_alloc (row_new (w.alloc (.cells #[.pointer (some ⟨b, 0, none⟩)] 50)) (.cells #[.int .i64 kd, .string nb, .slice A1 xs.length c1, .slice A2 ws.length c2, v3, v4, v5, v6, .slice A7 rs.length c7] 49)) (.cells #[.int .i64 0] 3)
 have hrP := row_new ((w.alloc (.cells #[.pointer (some ⟨b, 0, none⟩)] 50)).alloc (.cells #[.int .i64 kd, .string nb, .slice A1 xs.length c1, .slice A2 ws.length c2, v3, v4, v5, v6, .slice A7 rs.length c7] 49)) (.cells #[.int .i64 0] 3)
 have hz0 : ∀ (u : World) (o : Obj), (u.alloc o).heap.size = u.heap.size + 1 := fun u o => by simp
 simp only [hz0] at hrY hrP
 clear hz0
 generalize ((w.alloc (.cells #[.pointer (some ⟨b, 0, none⟩)] 50)).alloc (.cells #[.int .i64 kd, .string nb, .slice A1 xs.length c1, .slice A2 ws.length c2, v3, v4, v5, v6, .slice A7 rs.length c7] 49)).alloc (.cells #[.int .i64 0] 3) = W at *
 have hs : Stand b w.heap.size (w.heap.size + 1 + 1) v W := ⟨hb, by omega, by omega, fun k e => by have := hown k e; omega, ⟨row_lt hrX, row_lt hrP⟩, by omega, hrX, hm.stay hC0 (fun e => e)⟩
 have hYf : ¬ (w.heap.size + 1 = w.heap.size + 1 + 1 ∨ w.heap.size + 1 = b ∨ some (w.heap.size + 1) = v.ownBlock) := by
  rintro (e | e | e)
  ·omega
  ·omega
  ·have := hown _ e.symm; omega
 have hS0 : SimAt W b (w.heap.size + 1 + 1) v 0 x W := ⟨v, h.keep hC0, Chg.refl _ _, .inl rfl, hrP⟩
 have HFIN : Hid (∀ n y w', SimAt W b (w.heap.size + 1 + 1) v n y w' → Wrt b v y w w') := Lib.hid (fun n y w' hS => by
  obtain ⟨v1, hw, hc, ho, hr⟩ := hS
  have hz := hC0.size
  refine ⟨v1, hw, (chg_up hC0).trans hc (fun k hk hl => ?_), ?_⟩
  ·rcases hk with e | e
   ·omega
   ·exact e
  ·rcases ho with e | ⟨g, e, hg⟩
   ·exact .inl e
   ·exact .inr ⟨g, e, by omega⟩)
 have HREP : Hid (∀ n y w', SimAt W b (w.heap.size + 1 + 1) v n y w' → Rep w' (fun k => k < b) (.sl 75 3 (rs.map Rdr.d)) [.slice A7 rs.length c7] ∧ Rep w' (fun k => k < b) (.sl 72 2 (xs.map Asg.d)) [.slice A1 xs.length c1] ∧ Rep w' (fun k => k < b) (wordsD ws) [.slice A2 ws.length c2]) :=
  Lib.hid (fun n y w' hS => ⟨hS.rep hs (hr7.stay hC0 (fun _ _ e => e)), hS.rep hs (hr1.stay hC0 (fun _ _ e => e)), hS.rep hs (hr2.stay hC0 (fun _ _ e => e))⟩)
 have HROW : Hid (∀ n y w', SimAt W b (w.heap.size + 1 + 1) v n y w' → w'.heap[w.heap.size]? = some (.cells #[.pointer (some ⟨b, 0, none⟩)] 50 (0, 0)) ∧ w'.heap[w.heap.size + 1]? = some (.cells #[.int .i64 kd, .string nb, .slice A1 xs.length c1, .slice A2 ws.length c2, v3, v4, v5, v6, .slice A7 rs.length c7] 49 (0, 0))) :=
  Lib.hid (fun n y w' hS => ⟨hS.rowX hs, hS.rowAt hrY hYf⟩)
 have HREPW := Lib.hid (hr2.stay hC0 (fun _ _ e => e))
 clear hr1 hr2 hr7 hrX hrY hrP hYf hm hC0 h hown hblt
 replace hs := Lib.hid hs
 have hlx : x.out.length + 32 * (rs.length + (rs.map Rdr.great).sum) ≤ 600000 := by omega
 have hl1b : R1.out.length + 32 * (xs.length + (xs.map Asg.great).sum) ≤ 600000 := by omega
 have hl2b : R2.out.length + 32 * greatWords ws ≤ 600000 := by omega
 have hl3 : rs.length ≤ 20000 ∧ xs.length ≤ 20000 ∧ ws.length ≤ 20000 := by
  have := greatWords_len ws
  omega
 clear hl1 hl2
 generalize w.heap.size + 1 + 1 = P at *
 generalize w.heap.size + 1 = Y at *
 generalize w.heap.size = X at *
 replace hfd := Lib.hid hfd
 clear hmf hlen
 go_cut [18] (fun v18 wx => SimAt W b P v rs.length R1 wx)
 case first =>
  go_wp2
  go_loopg [18] rs.length (fun rk i wr => ∃ (k : Nat) (y : Wr), k + rk = rs.length ∧ i = .int .i64 k ∧ SimAt W b P v k y wr ∧ y.out.length + 32 * ((rs.drop k).length + ((rs.drop k).map Rdr.great).sum) ≤ 600000 ∧ Hid (sRedirs k y (rs.drop k) = R1))
  case atStart => exact ⟨0, x, by omega, rfl, hS0, by simpa using hlx, Lib.hid (by simpa using HR1.out)⟩
  case round =>
   obtain ⟨k, y, hk, rfl, hS, hB, HK⟩ := hrel
   generalize wr = W2 at *
   obtain ⟨f1, f2⟩ := HROW.out _ _ _ hS
   have x0 := row_cells f1 0
   have y8 := row_cells f2 8
   simp only [List.getElem?_toArray, List.getElem?_cons_succ, List.getElem?_cons_zero] at x0 y8
   by_cases hlt : k < rs.length
   ·obtain ⟨p, hp⟩ : ∃ p, rs[k]? = some p := ⟨rs[k], List.getElem?_eq_getElem hlt⟩
    have hd := drop_cons hp
    have hpf := hfd.out p (List.mem_of_getElem? hp)
    have hrp := (HREP.out _ _ _ hS).1
    obtain ⟨b1, o1, c', cs1, hv1, _, _, hb1, hr1, hl1, hcs1⟩ := sl_get hrp (by omega) k (Rdr.d p) (by rw [List.getElem?_map, hp]; rfl)
    simp only [List.length_map, Value.slice.injEq] at hv1
    obtain ⟨rfl, _, rfl⟩ := hv1
    obtain ⟨fd, op, wd⟩ := p
    obtain ⟨vw, rfl, hw1⟩ := rdr_rep.1 hr1
    obtain ⟨Aw, nw, cw, rfl⟩ := sl_formN hw1
    have k0 := hcs1 0 _ rfl
    have k1 := hcs1 1 _ rfl
    have k2 := hcs1 2 _ rfl
    simp only [Nat.add_zero, ← Nat.add_assoc] at k0 k1 k2
    rw [hd] at hB
    simp only [List.length_cons, List.map_cons, List.sum_cons, Rdr.great] at hB hpf
    have hnx := next_len y k
    have hrl := redir_len (y.next k) ⟨fd, op, wd⟩
    simp only [Rdr.great] at hrl
    obtain ⟨v9, hs5, hS5, hZ5, hB5⟩ := hS.base hs.out (.cells #[.int .i64 fd, .string (bstr op), .slice Aw nw cw] 75)
    have hz := row_new W2 (.cells #[.int .i64 fd, .string (bstr op), .slice Aw nw cw] 75)
    have HN := Lib.hid (hS5.nextC hs5 (by omega) (by omega))
    have r0 : IntKind.i64.wrap ((k : Int) + 1) = (k : Int) + 1 := IntWalk.i64_in _ (by omega)
    have HRD : Hid (∀ w', SimAt (W2.alloc (.cells #[.int .i64 fd, .string (bstr op), .slice Aw nw cw] 75)) b P v9 (k + 1) (y.next k) w' → w'.heap[X]? = some (.cells #[.pointer (some ⟨b, 0, none⟩)] 50 (0, 0)) ∧ w'.heap[W2.heap.size]? = some (.cells #[.int .i64 fd, .string (bstr op), .slice Aw nw cw] 75 (0, 0)) ∧
      Calls Tryz.prog 68 #[.pointer (some ⟨b, 0, none⟩), .agg #[.int .i64 fd, .string (bstr op), .slice Aw nw cw]] w' fun e w'' => e = .returned (.tuple #[]) ∧ SimAt W b P v (k + 1) ((y.next k).redir ⟨fd, op, wd⟩) w'') :=
     Lib.hid (fun w' h' => ⟨h'.rowX hs5, h'.rowAt hz hZ5, by
      have hrep := h'.rep hs5 (hr1.stay ((Chg.refl (fun _ => False) W2).alloc (.cells #[.int .i64 fd, .string (bstr op), .slice Aw nw cw] 75)) (fun _ _ e => e))
      have hc := h'.call hs5 (fun v6 hw6 => wredir_calls b v6 _ w' ⟨fd, op, wd⟩ _ hw6 hb (h'.hm hs5) (by simp only [Rdr.great]; omega) hpf (by simp only [Rdr.great]; omega) hrep)
      refine Calls.mono hc ?_
      rintro e w'' ⟨rfl, hS'⟩
      exact ⟨rfl, hB5 _ _ _ hS'⟩⟩)
    have HK1 : Hid (sRedirs (k + 1) ((y.next k).redir ⟨fd, op, wd⟩) (rs.drop (k + 1)) = R1) := Lib.hid (by rw [← HK.out, hd, sRedirs])
    have hB1 : ((y.next k).redir ⟨fd, op, wd⟩).out.length + 32 * ((rs.drop (k + 1)).length + ((rs.drop (k + 1)).map Rdr.great).sum) ≤ 600000 := by omega
    clear hd hpf hrp hr1 hl1 hcs1 hw1 hB hnx hrl hs5 hS5 hZ5 hB5 hz hp hS f1 f2 HK
    generalize bstr op = ob at *
    generalize (y.next k).redir ⟨fd, op, wd⟩ = y2 at *
    go_wp2_with fail
    refine Calls.mono HN.out ?_
    rintro e w3 ⟨rfl, hS3⟩
    obtain ⟨m1, m2, HC⟩ := HRD.out _ hS3
    have n1 := row_cells m1 0
    have z0 := row_cells m2 0
    have z1 := row_cells m2 1
    have z2 := row_cells m2 2
    simp only [List.getElem?_toArray, List.getElem?_cons_succ, List.getElem?_cons_zero] at n1 z0 z1 z2
    replace HC := Lib.hid HC
    clear HRD HN m1 m2 hS3
    go_wp2_with fail
    refine Calls.mono HC.out ?_
    rintro e w4 ⟨rfl, hS4⟩
    clear HC
    go_wp2
    go_roundg (rs.length - (k + 1))
    case measure => omega
    case rel => exact ⟨k + 1, _, by omega, rfl, hS4, hB1, HK1⟩
   ·have hk2 : k = rs.length := by omega
    subst hk2
    have hy : y = R1 := by rw [← HK.out, List.drop_eq_nil_of_le (Nat.le_refl _)]; rfl
    subst hy
    clear HK hB
    go_wp2
    go_meet
    exact hS
 case rest =>
  clear hS0
  generalize wc = W3 at *
  obtain ⟨f1, f2⟩ := HROW.out _ _ _ hcut
  have y2 := row_cells f2 2
  simp only [List.getElem?_toArray, List.getElem?_cons_succ, List.getElem?_cons_zero] at y2
  clear f1 f2
  go_upto_block 2 with fail
  go_cut [31] (fun v31 wx => SimAt W b P v (rs.length + xs.length) R2 wx)
  case first =>
   go_wp2
   go_loopg [31] xs.length (fun rk i wr => ∃ (k : Nat) (y : Wr), k + rk = xs.length ∧ i = .int .i64 k ∧ SimAt W b P v (rs.length + k) y wr ∧ y.out.length + 32 * ((xs.drop k).length + ((xs.drop k).map Asg.great).sum) ≤ 600000 ∧ Hid (sAsgs (rs.length + k) y (xs.drop k) = R2))
   case atStart => exact ⟨0, R1, by omega, rfl, hcut, by simpa using hl1b, Lib.hid (by simpa using HR2.out)⟩
   case round =>
    obtain ⟨k, y, hk, rfl, hS, hB, HK⟩ := hrel
    clear y2 hcut
    generalize wr = W2 at *
    obtain ⟨f1, f2⟩ := HROW.out _ _ _ hS
    have x0 := row_cells f1 0
    have y2 := row_cells f2 2
    simp only [List.getElem?_toArray, List.getElem?_cons_succ, List.getElem?_cons_zero] at x0 y2
    by_cases hlt : k < xs.length
    ·obtain ⟨p, hp⟩ : ∃ p, xs[k]? = some p := ⟨xs[k], List.getElem?_eq_getElem hlt⟩
     have hd := drop_cons hp
     have hrp := (HREP.out _ _ _ hS).2.1
     obtain ⟨b1, o1, c', cs1, hv1, _, _, hb1, hr1, hl1, hcs1⟩ := sl_get hrp (by omega) k (Asg.d p) (by rw [List.getElem?_map, hp]; rfl)
     simp only [List.length_map, Value.slice.injEq] at hv1
     obtain ⟨rfl, _, rfl⟩ := hv1
     obtain ⟨an, wd⟩ := p
     obtain ⟨vw, rfl, hw1⟩ := asg_rep.1 hr1
     obtain ⟨Aw, nw, cw, rfl⟩ := sl_formN hw1
     have k0 := hcs1 0 _ rfl
     have k1 := hcs1 1 _ rfl
     simp only [Nat.add_zero, ← Nat.add_assoc] at k0 k1
     rw [hd] at hB
     simp only [List.length_cons, List.map_cons, List.sum_cons, Asg.great] at hB
     have hnx := next_len y (rs.length + k)
     have hrl := asg_len (y.next (rs.length + k)) ⟨an, wd⟩
     have hpl := printW_len wd
     simp only [Asg.great] at hrl
     obtain ⟨v9, hs5, hS5, hZ5, hB5⟩ := hS.base hs.out (.cells #[.string (bstr an), .slice Aw nw cw] 72)
     have hz := row_new W2 (.cells #[.string (bstr an), .slice Aw nw cw] 72)
     have HN := Lib.hid (hS5.nextC hs5 (by omega) (by omega))
     have r0 : IntKind.i64.wrap ((k : Int) + 1) = (k : Int) + 1 := IntWalk.i64_in _ (by omega)
     have HRW : Hid (∀ m y' w', SimAt (W2.alloc (.cells #[.string (bstr an), .slice Aw nw cw] 72)) b P v9 m y' w' → w'.heap[X]? = some (.cells #[.pointer (some ⟨b, 0, none⟩)] 50 (0, 0)) ∧ w'.heap[W2.heap.size]? = some (.cells #[.string (bstr an), .slice Aw nw cw] 72 (0, 0))) :=
      Lib.hid (fun m y' w' h' => ⟨h'.rowX hs5, h'.rowAt hz hZ5⟩)
     have HPR : Hid (∀ m y' w', SimAt (W2.alloc (.cells #[.string (bstr an), .slice Aw nw cw] 72)) b P v9 m y' w' → Calls Tryz.prog 81 #[.slice Aw nw cw] w' fun e w'' => e = .returned (.tuple #[.string (strOf (printW wd)), .int .i64 (errOf (printW wd))]) ∧ SimAt (W2.alloc (.cells #[.string (bstr an), .slice Aw nw cw] 72)) b P v9 m y' w'') :=
      Lib.hid (fun m y' w' h' => by
       have hrep := h'.rep hs5 (hw1.stay ((Chg.refl (fun _ => False) W2).alloc (.cells #[.string (bstr an), .slice Aw nw cw] 72)) (fun _ _ e => e))
       have hc := print_calls w' _ (.slice Aw nw cw) wd (by omega) (h'.hm hs5) hrep
       refine Calls.mono hc ?_
       rintro e w'' ⟨rfl, hC'⟩
       exact ⟨rfl, h'.keep hs5 hC'⟩)
     have HPU : Hid (∀ m out bad w', SimAt (W2.alloc (.cells #[.string (bstr an), .slice Aw nw cw] 72)) b P v9 m ⟨out, bad⟩ w' → out.length ≤ (y.next (rs.length + k)).out.length → Calls Tryz.prog 32 #[.pointer (some ⟨b, 0, none⟩), .slice (some ⟨w'.heap.size, 0, none⟩) 3 3] (w'.alloc (.cells #[.string (bstr an), .string ⟨#[61]⟩, .string (strOf (printW wd))] 9)) fun e w'' => e = .returned (.tuple #[]) ∧ SimAt W b P v m ⟨out ++ (an ++ ([61] ++ sOf (printW wd))), bad⟩ w'') :=
      Lib.hid (fun m out bad w' h' hle => by
       have hc := h'.call hs5 (fun v6 hw6 => put_three b v6 _ (bstr an) ⟨#[61]⟩ (strOf (printW wd)) w' hw6 (by rw [bstr_size, strOf_eq, bstr_size]; show _ + (_ + 1 + _) ≤ _; simp only; omega))
       rw [bstr_toList, strOf_eq, bstr_toList] at hc
       rw [strOf_eq]
       refine Calls.mono hc ?_
       rintro e w'' ⟨rfl, hS'⟩
       exact ⟨rfl, hB5 _ _ _ hS'⟩)
     have HSB : Hid (∀ m y' w' bad, SimAt (W2.alloc (.cells #[.string (bstr an), .slice Aw nw cw] 72)) b P v9 m y' w' → SimAt (W2.alloc (.cells #[.string (bstr an), .slice Aw nw cw] 72)) b P v9 m ⟨y'.out, bad⟩ (w'.setCell ⟨b, 2, none⟩ (.bool bad))) := Lib.hid (fun m y' w' bad h' => h'.setBad hs5 bad)
     have HAS : Hid ((y.next (rs.length + k)).asg ⟨an, wd⟩ = ⟨(y.next (rs.length + k)).out ++ (an ++ ([61] ++ sOf (printW wd))), (y.next (rs.length + k)).bad || (printW wd).isNone⟩) := Lib.hid rfl
     have HK1 : Hid (sAsgs (rs.length + (k + 1)) ((y.next (rs.length + k)).asg ⟨an, wd⟩) (xs.drop (k + 1)) = R2) := Lib.hid (by rw [← HK.out, hd, sAsgs]; rfl)
     have hB1 : ((y.next (rs.length + k)).asg ⟨an, wd⟩).out.length + 32 * ((xs.drop (k + 1)).length + ((xs.drop (k + 1)).map Asg.great).sum) ≤ 600000 := by omega
     clear hd hrp hr1 hl1 hcs1 hw1 hB hnx hrl hpl hs5 hS5 hZ5 hB5 hz hp hS f1 f2 HK
     generalize bstr an = ab at *
     generalize (y.next (rs.length + k)).asg ⟨an, wd⟩ = y9 at *
     generalize y.next (rs.length + k) = y8 at *
     go_wp2_with fail
     refine Calls.mono HN.out ?_
     rintro e w3 ⟨rfl, hS3⟩
     obtain ⟨m1, m2⟩ := HRW.out _ _ _ hS3
     have z1 := row_cells m2 1
     simp only [List.getElem?_toArray, List.getElem?_cons_succ, List.getElem?_cons_zero] at z1
     have HP := Lib.hid (HPR.out _ _ _ hS3)
     clear HPR HN m1 m2 hS3
     go_wp2_with fail
     refine Calls.mono HP.out ?_
     rintro e w4 ⟨rfl, hS4⟩
     clear HP z1
     obtain ⟨m1, m2⟩ := HRW.out _ _ _ hS4
     have n1 := row_cells m1 0
     have z0 := row_cells m2 0
     simp only [List.getElem?_toArray, List.getElem?_cons_succ, List.getElem?_cons_zero] at n1 z0
     obtain ⟨hcb, hfb⟩ := hS4.bads
     cases hbad : y8.bad with
     | true =>
      rw [hbad] at hcb
      cases hrr : printW wd with
      | none =>
       simp only [hrr, strOf, errOf, sOf, Option.getD_none, Option.getD_some, Option.isNone_none, Option.isNone_some] at HPU HAS ⊢
       go_wp2
       go_region
       have HF := HPU.out _ y8.out true ((w4.setCell ⟨b, 2, none⟩ (.bool true)).drew) (SimAt.drew (HSB.out _ _ _ true hS4)) (Nat.le_refl _)
       rw [show ((w4.setCell ⟨b, 2, none⟩ (.bool true)).drew).heap.size = w4.heap.size by simp [World.drew], alloc_drew] at HF
       replace HF := Lib.hid HF
       go_wp2_with fail
       refine Calls.mono HF.out ?_
       rintro e w5 ⟨rfl, hS6⟩
       clear HF
       go_wp2
       go_roundg (xs.length - (k + 1))
       case measure => omega
       case rel => exact ⟨k + 1, y9, by omega, rfl, by rw [HAS.out, ← Nat.add_assoc]; simpa [hbad] using hS6, hB1, HK1⟩
      | some s =>
       simp only [hrr, strOf, errOf, sOf, Option.getD_none, Option.getD_some, Option.isNone_none, Option.isNone_some] at HPU HAS ⊢
       go_wp2
       go_region
       have HF := HPU.out _ y8.out true ((w4.setCell ⟨b, 2, none⟩ (.bool true)).drew) (SimAt.drew (HSB.out _ _ _ true hS4)) (Nat.le_refl _)
       rw [show ((w4.setCell ⟨b, 2, none⟩ (.bool true)).drew).heap.size = w4.heap.size by simp [World.drew], alloc_drew] at HF
       replace HF := Lib.hid HF
       go_wp2_with fail
       refine Calls.mono HF.out ?_
       rintro e w5 ⟨rfl, hS6⟩
       clear HF
       go_wp2
       go_roundg (xs.length - (k + 1))
       case measure => omega
       case rel => exact ⟨k + 1, y9, by omega, rfl, by rw [HAS.out, ← Nat.add_assoc]; simpa [hbad] using hS6, hB1, HK1⟩
     | false =>
      rw [hbad] at hcb
      cases hrr : printW wd with
      | none =>
       simp only [hrr, strOf, errOf, sOf, Option.getD_none, Option.getD_some, Option.isNone_none, Option.isNone_some] at HPU HAS ⊢
       go_wp2
       go_region
       have HF := HPU.out _ y8.out true ((w4.setCell ⟨b, 2, none⟩ (.bool true)).drew) (SimAt.drew (HSB.out _ _ _ true hS4)) (Nat.le_refl _)
       rw [show ((w4.setCell ⟨b, 2, none⟩ (.bool true)).drew).heap.size = w4.heap.size by simp [World.drew], alloc_drew] at HF
       replace HF := Lib.hid HF
       go_wp2_with fail
       refine Calls.mono HF.out ?_
       rintro e w5 ⟨rfl, hS6⟩
       clear HF
       go_wp2
       go_roundg (xs.length - (k + 1))
       case measure => omega
       case rel => exact ⟨k + 1, y9, by omega, rfl, by rw [HAS.out, ← Nat.add_assoc]; simpa [hbad] using hS6, hB1, HK1⟩
      | some s =>
       simp only [hrr, strOf, errOf, sOf, Option.getD_none, Option.getD_some, Option.isNone_none, Option.isNone_some] at HPU HAS ⊢
       go_wp2
       go_region
       have HF := HPU.out _ y8.out false ((w4.setCell ⟨b, 2, none⟩ (.bool false)).drew) (SimAt.drew (HSB.out _ _ _ false hS4)) (Nat.le_refl _)
       rw [show ((w4.setCell ⟨b, 2, none⟩ (.bool false)).drew).heap.size = w4.heap.size by simp [World.drew], alloc_drew] at HF
       replace HF := Lib.hid HF
       go_wp2_with fail
       refine Calls.mono HF.out ?_
       rintro e w5 ⟨rfl, hS6⟩
       clear HF
       go_wp2
       go_roundg (xs.length - (k + 1))
       case measure => omega
       case rel => exact ⟨k + 1, y9, by omega, rfl, by rw [HAS.out, ← Nat.add_assoc]; simpa [hbad] using hS6, hB1, HK1⟩
    ·have hk2 : k = xs.length := by omega
     subst hk2
     have hy : y = R2 := by rw [← HK.out, List.drop_eq_nil_of_le (Nat.le_refl _)]; rfl
     subst hy
     clear HK hB
     go_wp2
     go_meet
     exact hS
  case rest =>
   clear y2
   generalize wc = W4 at *
   obtain ⟨f1, f2⟩ := HROW.out _ _ _ hcut
   have y3 := row_cells f2 3
   simp only [List.getElem?_toArray, List.getElem?_cons_succ, List.getElem?_cons_zero] at y3
   clear f1 f2
   go_wp2
   go_loopg [64] ws.length (fun rk i wr => ∃ (k : Nat) (y : Wr), k + rk = ws.length ∧ i = .int .i64 k ∧ SimAt W b P v (rs.length + xs.length + k) y wr ∧ y.out.length + 32 * greatWords (ws.drop k) ≤ 600000 ∧ Hid (sWords (rs.length + xs.length + k) y (ws.drop k) = R3))
   case atStart => exact ⟨0, R2, by omega, rfl, hcut, by simpa using hl2b, Lib.hid (by rw [HR3.out]; rfl)⟩
   case round =>
    obtain ⟨k, y, hk, rfl, hS, hB, HK⟩ := hrel
    clear y3 hcut
    generalize wr = W2 at *
    obtain ⟨f1, f2⟩ := HROW.out _ _ _ hS
    have x0 := row_cells f1 0
    have y3 := row_cells f2 3
    simp only [List.getElem?_toArray, List.getElem?_cons_succ, List.getElem?_cons_zero] at x0 y3
    by_cases hlt : k < ws.length
    ·obtain ⟨p, hp⟩ : ∃ p, ws[k]? = some p := ⟨ws[k], List.getElem?_eq_getElem hlt⟩
     have hd := drop_cons hp
     have hrp := HREPW.out
     obtain ⟨b1, o1, c', cs1, hv1, _, _, hb1, hr1, hl1, hcs1⟩ := sl_get hrp (by omega) k (wordD p) (by rw [List.getElem?_map, hp]; rfl)
     simp only [List.length_map, Value.slice.injEq] at hv1
     obtain ⟨rfl, _, rfl⟩ := hv1
     obtain ⟨vw, rfl, hw1⟩ := rep_sl hr1
     obtain ⟨Aw, nw, cw, rfl⟩ := sl_formN hw1
     have k0 := hS.cellAt hs.out hb1 (hcs1 0 _ rfl)
     simp only [Nat.add_zero, Nat.mul_one, ← Nat.add_assoc] at k0
     rw [hd] at hB
     simp only [greatWords, List.length_cons, List.map_cons, List.sum_cons] at hB
     have hnx := next_len y (rs.length + xs.length + k)
     have hrl := word_len (y.next (rs.length + xs.length + k)) p
     have HN := Lib.hid (hS.nextC hs.out (by omega) (by omega))
     have r0 : IntKind.i64.wrap ((k : Int) + 1) = (k : Int) + 1 := IntWalk.i64_in _ (by omega)
     have HWD : Hid (∀ m w', SimAt W b P v m (y.next (rs.length + xs.length + k)) w' → Rep w' (fun k => k < b) (wordD p) [.slice Aw nw cw] → w'.cell? ⟨X, 0, none⟩ = some (.pointer (some ⟨b, 0, none⟩)) ∧ Calls Tryz.prog 66 #[.pointer (some ⟨b, 0, none⟩), .slice Aw nw cw] w' fun e w'' => e = .returned (.tuple #[]) ∧ SimAt W b P v m ((y.next (rs.length + xs.length + k)).word p) w'') :=
      Lib.hid (fun m w' h' hrep => by
       have hx := row_cells (h'.rowX hs.out) 0
       simp only [List.getElem?_toArray, List.getElem?_cons_succ, List.getElem?_cons_zero] at hx
       exact ⟨hx, h'.call hs.out (fun v6 hw6 => wword_calls b v6 _ w' _ p hw6 hb (h'.hm hs.out) (by omega) (by omega) hrep)⟩)
     have HK1 : Hid (sWords (rs.length + xs.length + (k + 1)) ((y.next (rs.length + xs.length + k)).word p) (ws.drop (k + 1)) = R3) := Lib.hid (by rw [← HK.out, hd, sWords]; rfl)
     have hB1 : ((y.next (rs.length + xs.length + k)).word p).out.length + 32 * greatWords (ws.drop (k + 1)) ≤ 600000 := by simp only [greatWords]; omega
     have HRP : Hid (∀ m y' w', SimAt W b P v m y' w' → Rep w' (fun k => k < b) (wordD p) [.slice Aw nw cw]) := Lib.hid (fun m y' w' h' => h'.rep hs.out hw1)
     clear hd hrp hr1 hl1 hcs1 hw1 hB hnx hrl hp hS f1 f2 HK
     generalize (y.next (rs.length + xs.length + k)).word p = y9 at *
     go_wp2_with fail
     refine Calls.mono HN.out ?_
     rintro e w3 ⟨rfl, hS3⟩
     obtain ⟨n1, HC⟩ := HWD.out _ _ hS3 (HRP.out _ _ _ hS3)
     replace HC := Lib.hid HC
     clear HN HWD hS3
     go_wp2_with fail
     refine Calls.mono HC.out ?_
     rintro e w4 ⟨rfl, hS4⟩
     clear HC
     go_wp2
     go_roundg (ws.length - (k + 1))
     case measure => omega
     case rel => exact ⟨k + 1, _, by omega, rfl, hS4, hB1, HK1⟩
    ·have hk2 : k = ws.length := by omega
     subst hk2
     have hy : y = R3 := by rw [← HK.out, List.drop_eq_nil_of_le (Nat.le_refl _)]; rfl
     subst hy
     clear HK hB
     go_wp2
     go_end0
     exact ⟨rfl, HFIN.out _ _ _ hS⟩
def Rdr.fdOk (r : Rdr) : Prop := -9223372036854775808 ≤ r.fd ∧ r.fd ≤ 9223372036854775807
mutual
def Cmd.fds : Cmd → Prop
 | .mk _ _ _ _ co bo ot ca rs => (∀ r ∈ rs, Rdr.fdOk r) ∧ fdLs co ∧ fdLs bo ∧ fdLs ot ∧ fdCas ca
def fdCmds : List Cmd → Prop
 | [] => True
 | x :: xs => Cmd.fds x ∧ fdCmds xs
def Cas.fds : Cas → Prop
 | .mk _ b => fdLs b
def fdCas : List Cas → Prop
 | [] => True
 | x :: xs => Cas.fds x ∧ fdCas xs
def Pip.fds : Pip → Prop
 | .mk _ cs => fdCmds cs
def fdPips : List Pip → Prop
 | [] => True
 | x :: xs => Pip.fds x ∧ fdPips xs
def Lst.fds : Lst → Prop
 | .mk ps _ => fdPips ps
def fdLs : List Lst → Prop
 | [] => True
 | x :: xs => Lst.fds x ∧ fdLs xs
end
theorem fdLs_mem : ∀ {l : List Lst}, fdLs l → ∀ x ∈ l, x.fds
 | [], _, x, h => by simp at h
 | y :: ys, hl, x, h => by
  rw [fdLs] at hl
  rcases List.mem_cons.1 h with rfl | h
  ·exact hl.1
  ·exact fdLs_mem hl.2 x h
theorem fdPips_mem : ∀ {l : List Pip}, fdPips l → ∀ x ∈ l, x.fds
 | [], _, x, h => by simp at h
 | y :: ys, hl, x, h => by
  rw [fdPips] at hl
  rcases List.mem_cons.1 h with rfl | h
  ·exact hl.1
  ·exact fdPips_mem hl.2 x h
theorem fdCmds_mem : ∀ {l : List Cmd}, fdCmds l → ∀ x ∈ l, x.fds
 | [], _, x, h => by simp at h
 | y :: ys, hl, x, h => by
  rw [fdCmds] at hl
  rcases List.mem_cons.1 h with rfl | h
  ·exact hl.1
  ·exact fdCmds_mem hl.2 x h
theorem fdCas_mem : ∀ {l : List Cas}, fdCas l → ∀ x ∈ l, x.fds
 | [], _, x, h => by simp at h
 | y :: ys, hl, x, h => by
  rw [fdCas] at hl
  rcases List.mem_cons.1 h with rfl | h
  ·exact hl.1
  ·exact fdCas_mem hl.2 x h
section
variable {b n : Nat} {v : Value} {x y : Wr} {w1 wr : World}
theorem Wrt.call (h : Wrt b v y w1 wr) {f : FuncId} {args : Array Value} {y' : Wr} {W : World} (hC : ∀ v1, WV b v1 y wr → Calls Tryz.prog f args W fun e w' => e = .returned (.tuple #[]) ∧ Wrt b v1 y' wr w') :
  Calls Tryz.prog f args W fun e w' => e = .returned (.tuple #[]) ∧ Wrt b v y' w1 w' := by
 obtain ⟨v1, hw, hc, ho⟩ := h
 refine Calls.mono (hC v1 hw) ?_
 rintro e w' ⟨rfl, hW⟩
 exact ⟨rfl, Wrt.next hc ho hW⟩
theorem Wrt.rowAt (h : Wrt b v y w1 wr) {Y : Nat} {o : Obj} (hrow : w1.heap[Y]? = some o) (hf : ¬ (Y = b ∨ some Y = v.ownBlock)) : wr.heap[Y]? = some o := by
 obtain ⟨v1, hw, hc, ho⟩ := h
 exact row_chg hrow hc hf
theorem Wrt.rep (hv : WV b v x w1) (h : Wrt b v y w1 wr) {d : D} {cs : List Value} (hd : Rep w1 (fun k => k < b) d cs) : Rep wr (fun k => k < b) d cs := by
 obtain ⟨v1, hw, hc, ho⟩ := h
 exact stay_wr hd hv hc
theorem Wrt.hm (hb : 0 < b) (hv : WV b v x w1) (h : Wrt b v y w1 wr) (hm : HM w1) : HM wr := by
 obtain ⟨v1, hw, hc, ho⟩ := h
 exact hm_wr hm hb hv hc
theorem Wrt.keep (h : Wrt b v y w1 wr) {w' : World} (hc2 : Chg (fun _ => False) wr w') : Wrt b v y w1 w' := by
 obtain ⟨v1, hw, hc, ho⟩ := h
 exact ⟨v1, hw.keep hc2, hc.trans hc2 (fun k e _ => e.elim), ho⟩
theorem Wrt.bads (h : Wrt b v y w1 wr) : wr.cell? ⟨b, 2, none⟩ = some (.bool y.bad) ∧ wr.frozen? ⟨b, 2, none⟩ = false := by
 obtain ⟨v1, hw, hc, ho⟩ := h
 exact hw.row
theorem Wrt.setBad (h : Wrt b v y w1 wr) (bad : Bool) : Wrt b v ⟨y.out, bad⟩ w1 (wr.setCell ⟨b, 2, none⟩ (.bool bad)) := by
 obtain ⟨v1, hw, hc, ho⟩ := h
 exact ⟨v1, hw.setBad bad, hc.setCell (fun _ => .inl rfl) _, ho⟩
theorem Wrt.base (h : Wrt b v y w1 wr) (o : Obj) :
  ∃ v1, WV b v1 y (wr.alloc o) ∧ (¬ (wr.heap.size = b ∨ some wr.heap.size = v1.ownBlock)) ∧ ∀ y' w', Wrt b v1 y' (wr.alloc o) w' → Wrt b v y' w1 w' := by
 obtain ⟨v1, hw, hc, ho⟩ := h
 have hca : Chg (fun _ => False) wr (wr.alloc o) := (Chg.refl _ wr).alloc o
 refine ⟨v1, hw.keep hca, ?_, fun y' w' h' => Wrt.next (hc.trans hca (fun k e _ => e.elim)) ho h'⟩
 rintro (e | e)
 ·have := hw.lt; omega
 ·have := (hw.own _ e.symm).2; omega
end
def WLs (n : Nat) : Prop := ∀ (b : Nat) (v : Value) (x : Wr) (w : World) (vl : Value) (ls : List Lst), SizeOf.sizeOf ls < n → WV b v x w → 0 < b → HM w → fdLs ls → x.out.length + 64 * greatLs ls ≤ 600000 → Rep w (fun k => k < b) (.sl 39 2 (Lst.ds ls)) [vl] →
 Calls Tryz.prog 16 #[.pointer (some ⟨b, 0, none⟩), vl] w fun e w' => e = .returned (.tuple #[]) ∧ Wrt b v (wLists x ls) w w'
def WLt (n : Nat) : Prop := ∀ (b : Nat) (v : Value) (x : Wr) (w : World) (cs : List Value) (l : Lst), SizeOf.sizeOf l < n → WV b v x w → 0 < b → HM w → l.fds → x.out.length + 64 * l.great ≤ 600000 → Rep w (fun k => k < b) l.d cs →
 Calls Tryz.prog 31 #[.pointer (some ⟨b, 0, none⟩), .agg cs.toArray] w fun e w' => e = .returned (.tuple #[]) ∧ Wrt b v (wList x l) w w'
def WCm (n : Nat) : Prop := ∀ (b : Nat) (v : Value) (x : Wr) (w : World) (cs : List Value) (c : Cmd), SizeOf.sizeOf c < n → WV b v x w → 0 < b → HM w → c.fds → x.out.length + 64 * c.great ≤ 600000 → Rep w (fun k => k < b) c.d cs →
 Calls Tryz.prog 51 #[.pointer (some ⟨b, 0, none⟩), .agg cs.toArray] w fun e w' => e = .returned (.tuple #[]) ∧ Wrt b v (wCmd x c) w w'
set_option maxRecDepth 100000 in
set_option maxHeartbeats 4000000 in
theorem wlists_step (n : Nat) (IH : WLt n) : WLs (n + 1) := by
 intro b v x w vl ls hn h hb hm hfd hlen hr
 rw [Lst.ds_map] at hr
 obtain ⟨A, c, rfl⟩ := sl_form2 hr
 rw [List.length_map] at hr ⊢
 have hx := rep_max hr
 rw [List.length_map] at hx
 have hmem := Lib.hid (fdLs_mem hfd)
 have hsz : Hid (∀ l ∈ ls, SizeOf.sizeOf l < n) := Lib.hid (fun l hl => by have := List.sizeOf_lt_of_mem hl; omega)
 clear hfd hn
 generalize hR : wLists x ls = R
 have HR := Lib.hid hR; clear hR
 have HV := Lib.hid h
 have HM0 := Lib.hid hm
 go_enter Tryz.func16, Tryz.ntmps16
 go_wp2
 go_loopg [8] ls.length (fun rk i wr => ∃ (k : Nat) (y : Wr), k + rk = ls.length ∧ i = .int .i64 k ∧ Wrt b v y w wr ∧ y.out.length + 64 * greatLs (ls.drop k) ≤ 600000 ∧ Hid (wLists y (ls.drop k) = R))
 case atStart => exact ⟨0, x, by omega, rfl, Wrt.refl h, by simpa using hlen, Lib.hid (by simpa using HR.out)⟩
 case round =>
  obtain ⟨k, y, hk, rfl, hS, hB, HK⟩ := hrel
  generalize wr = W2 at *
  by_cases hlt : k < ls.length
  ·obtain ⟨p, hp⟩ : ∃ p, ls[k]? = some p := ⟨ls[k], List.getElem?_eq_getElem hlt⟩
   have hd := drop_cons hp
   have hpm := List.mem_of_getElem? hp
   have hrp := hS.rep HV.out hr
   obtain ⟨b1, o1, c', cs1, hv1, _, _, hb1, hr1, hl1, hcs1⟩ := sl_get hrp (by omega) k (Lst.d p) (by rw [List.getElem?_map, hp]; rfl)
   simp only [List.length_map, Value.slice.injEq] at hv1
   obtain ⟨rfl, _, rfl⟩ := hv1
   obtain ⟨Aw, nw, cw, A2, n2, c2, rfl⟩ := lst_form hr1
   have k0 := hcs1 0 _ rfl
   have k1 := hcs1 1 _ rfl
   simp only [Nat.add_zero, ← Nat.add_assoc] at k0 k1
   rw [hd, greatLs] at hB
   have hwl := wList_len p y
   obtain ⟨v9, hW5, hZ5, hB5⟩ := hS.base (.cells #[.slice Aw nw cw, .slice A2 n2 c2] 39)
   have hca : Chg (fun _ => False) W2 (W2.alloc (.cells #[.slice Aw nw cw, .slice A2 n2 c2] 39)) := (Chg.refl _ W2).alloc _
   have r0 : IntKind.i64.wrap ((k : Int) + 1) = (k : Int) + 1 := IntWalk.i64_in _ (by omega)
   have HL := Lib.hid (IH b v9 y _ _ p (hsz.out p hpm) hW5 hb ((hS.hm hb HV.out HM0.out).stay hca (fun e => e)) (hmem.out p hpm) (by omega) (hr1.stay hca (fun _ _ e => e)))
   have HPU : Hid (∀ w', Wrt b v9 (wList y p) (W2.alloc (.cells #[.slice Aw nw cw, .slice A2 n2 c2] 39)) w' → Calls Tryz.prog 32 #[.pointer (some ⟨b, 0, none⟩), .slice (some ⟨w'.heap.size, 0, none⟩) 1 1] (w'.alloc (.cells #[.string ⟨#[10]⟩] 9)) fun e w'' => e = .returned (.tuple #[]) ∧ Wrt b v ((wList y p).put [10]) w w'') :=
    Lib.hid (fun w' h' => by
     have hc := h'.call (fun v6 hw6 => put_lit b v6 _ ⟨#[10]⟩ w' hw6 (by show _ + 1 ≤ _; omega))
     refine Calls.mono hc ?_
     rintro e w'' ⟨rfl, hS'⟩
     exact ⟨rfl, hB5 _ _ hS'⟩)
   have HK1 : Hid (wLists ((wList y p).put [10]) (ls.drop (k + 1)) = R) := Lib.hid (by rw [← HK.out, hd, wLists])
   have hB1 : ((wList y p).put [10]).out.length + 64 * greatLs (ls.drop (k + 1)) ≤ 600000 := by rw [put_len]; simp only [List.length_cons, List.length_nil]; omega
   clear hd hpm hrp hr1 hl1 hcs1 hB hwl hW5 hZ5 hB5 hca hp hS HK
   generalize (wList y p).put [10] = y9 at *
   generalize wList y p = y8 at *
   go_wp2_with fail
   refine Calls.mono HL.out ?_
   rintro e w3 ⟨rfl, hS3⟩
   have HC := Lib.hid (HPU.out _ hS3)
   clear HL HPU hS3
   go_wp2_with fail
   refine Calls.mono HC.out ?_
   rintro e w4 ⟨rfl, hS4⟩
   clear HC
   go_wp2
   go_roundg (ls.length - (k + 1))
   case measure => omega
   case rel => exact ⟨k + 1, _, by omega, rfl, hS4, hB1, HK1⟩
  ·have hk2 : k = ls.length := by omega
   subst hk2
   have hy : y = R := by rw [← HK.out, List.drop_eq_nil_of_le (Nat.le_refl _)]; rfl
   subst hy
   clear HK hB
   go_wp2
   go_end0
   exact ⟨rfl, hS⟩
end Go.Proofs.YtdfnkmiabmjolaaGreatDoor
namespace Go.Proofs.YtdfnkmiabmjolaaGreatDoor
theorem word_bad {x : Wr} (l : List Part) (h : x.bad = true) : (x.word l).bad = true := by simp [Wr.word, h]
theorem redir_bad {x : Wr} (r : Rdr) (h : x.bad = true) : (x.redir r).bad = true := word_bad _ h
theorem asg_bad {x : Wr} (a : Asg) (h : x.bad = true) : (x.asg a).bad = true := by simp [Wr.asg, h]
theorem next_bad {x : Wr} (n : Nat) (h : x.bad = true) : (x.next n).bad = true := by unfold Wr.next; split <;> exact h
theorem op_bad {x : Wr} (n : Nat) (os : List Bytes) (h : x.bad = true) : (x.op n os).bad = true := by unfold Wr.op; split <;> exact h
theorem sRedirs_bad : ∀ (rs : List Rdr) (n : Nat) (x : Wr), x.bad = true → (sRedirs n x rs).bad = true
 | [], n, x, h => h
 | r :: rs, n, x, h => by rw [sRedirs]; exact sRedirs_bad rs _ _ (redir_bad r (next_bad n h))
theorem sAsgs_bad : ∀ (rs : List Asg) (n : Nat) (x : Wr), x.bad = true → (sAsgs n x rs).bad = true
 | [], n, x, h => h
 | r :: rs, n, x, h => by rw [sAsgs]; exact sAsgs_bad rs _ _ (asg_bad r (next_bad n h))
theorem sWords_bad : ∀ (ws : List (List Part)) (n : Nat) (x : Wr), x.bad = true → (sWords n x ws).bad = true
 | [], n, x, h => h
 | r :: rs, n, x, h => by rw [sWords]; exact sWords_bad rs _ _ (word_bad r (next_bad n h))
theorem cRedirs_bad : ∀ (rs : List Rdr) (x : Wr), x.bad = true → (cRedirs x rs).bad = true
 | [], x, h => h
 | r :: rs, x, h => by rw [cRedirs]; exact cRedirs_bad rs _ (redir_bad (x := x.put [32]) r h)
theorem fWords_bad : ∀ (ws : List (List Part)) (x : Wr), x.bad = true → (fWords x ws).bad = true
 | [], x, h => h
 | r :: rs, x, h => by rw [fWords]; exact fWords_bad rs _ (word_bad (x := x.put [32]) r h)
theorem cWords_bad : ∀ (ws : List (List Part)) (x : Wr), x.bad = true → (cWords x ws).bad = true
 | [], x, h => h
 | r :: rs, x, h => by rw [cWords]; exact cWords_bad rs _ (word_bad r h)
theorem pWords_bad : ∀ (ws : List (List Part)) (n : Nat) (x : Wr), x.bad = true → (pWords n x ws).bad = true
 | [], n, x, h => h
 | r :: rs, n, x, h => by rw [pWords]; exact pWords_bad rs _ _ (word_bad r (by split <;> exact h))
mutual
theorem wLists_bad : ∀ (ls : List Lst) (x : Wr), x.bad = true → (wLists x ls).bad = true
 | [], x, h => by rw [wLists]; exact h
 | l :: ls, x, h => by rw [wLists]; exact wLists_bad ls _ (wList_bad l x h)
theorem wLists0_bad : ∀ (ls : List Lst) (x : Wr), x.bad = true → (wLists0 x ls).bad = true
 | [], x, h => by rw [wLists0]; exact h
 | l :: ls, x, h => by rw [wLists0]; exact wLists0_bad ls _ (wList_bad l x h)
theorem wList_bad : ∀ (l : Lst) (x : Wr), x.bad = true → (wList x l).bad = true
 | .mk ps os, x, h => by rw [wList]; exact wPipes_bad ps _ os 0 (by simp [h])
theorem wPipes_bad : ∀ (ps : List Pip) (x : Wr) (os : List Bytes) (n : Nat), x.bad = true → (wPipes x os n ps).bad = true
 | [], x, os, n, h => by rw [wPipes]; exact h
 | p :: ps, x, os, n, h => by rw [wPipes]; exact wPipes_bad ps _ os _ (wPipe_bad p _ (op_bad n os h))
theorem wPipe_bad : ∀ (p : Pip) (x : Wr), x.bad = true → (wPipe x p).bad = true
 | .mk ng cs, x, h => by rw [wPipe]; exact wCmds_bad cs _ 0 (by split <;> exact h)
theorem wCmds_bad : ∀ (cs : List Cmd) (x : Wr) (n : Nat), x.bad = true → (wCmds x n cs).bad = true
 | [], x, n, h => by rw [wCmds]; exact h
 | c :: cs, x, n, h => by rw [wCmds]; exact wCmds_bad cs _ _ (wCmd_bad c _ (by split <;> exact h))
theorem wCmd_bad : ∀ (c : Cmd) (x : Wr), x.bad = true → (wCmd x c).bad = true
 | .mk k n xs ws co bo ot ca rs, x, h => by
  rw [wCmd]
  split
  ·exact sWords_bad _ _ _ (sAsgs_bad _ _ _ (sRedirs_bad _ _ _ h))
  ·refine cRedirs_bad rs _ ?_
   split
   ·exact wLists_bad bo (x.put [123, 10]) h
   ·split
    ·exact wLists_bad bo (x.put [40, 10]) h
    ·split
     ·split
      ·exact wLists_bad ot (Wr.put _ _) (wLists_bad bo (Wr.put _ _) (wLists_bad co (x.put [105, 102, 10]) h))
      ·exact wLists_bad bo (Wr.put _ _) (wLists_bad co (x.put [105, 102, 10]) h)
     ·split
      ·exact wLists_bad bo (Wr.put _ _) (wLists_bad co (x.put [119, 104, 105, 108, 101, 10]) h)
      ·split
       ·exact wLists_bad bo (Wr.put _ _) (wLists_bad co (x.put [117, 110, 116, 105, 108, 10]) h)
       ·split
        ·exact wLists_bad bo (Wr.put (Wr.put _ _) _) (fWords_bad ws (x.put ([102, 111, 114, 32] ++ (n ++ [32, 105, 110]))) h)
        ·split
         ·exact wCases_bad ca (Wr.put _ _) (cWords_bad ws (x.put [99, 97, 115, 101, 32]) h)
         ·split
          ·exact wLists0_bad bo (x.put (n ++ [40, 41, 32])) h
          ·rfl
theorem wCases_bad : ∀ (cs : List Cas) (x : Wr), x.bad = true → (wCases x cs).bad = true
 | [], x, h => by rw [wCases]; exact h
 | c :: cs, x, h => by rw [wCases]; exact wCases_bad cs _ (wCase_bad c x h)
theorem wCase_bad : ∀ (c : Cas) (x : Wr), x.bad = true → (wCase x c).bad = true
 | .mk ps b, x, h => by rw [wCase]; exact wLists_bad b (Wr.put _ _) (pWords_bad ps 0 (x.put [40]) h)
end
end Go.Proofs.YtdfnkmiabmjolaaGreatDoor
namespace Go.Proofs.YtdfnkmiabmjolaaGreatDoor
open Go.RowKit
set_option maxRecDepth 100000 in
set_option maxHeartbeats 8000000 in
theorem wlist_step (n : Nat) (IH : WCm n) : WLt (n + 1) := by
 intro b v x w cs l hn h hb hm hfd hlen hr
 obtain ⟨ps, os⟩ := l
 obtain ⟨v1, v2, rfl, hr1, hr2⟩ := lst_rep.1 hr
 rw [Pip.ds_map] at hr1
 obtain ⟨A1, c1, rfl⟩ := sl_form2 hr1
 obtain ⟨A2, c2, rfl⟩ := sl_form2 hr2
 have hx1 := rep_max hr1
 have hx2 := rep_max hr2
 rw [List.length_map] at hr1 hr2 hx1 hx2
 simp only [List.length_map] at hr1 hr2 ⊢
 rw [Lst.fds] at hfd
 have hmem := Lib.hid (fdPips_mem hfd)
 have hsz : Hid (∀ p ∈ ps, SizeOf.sizeOf p < n) := Lib.hid (fun p hp => by have := List.sizeOf_lt_of_mem hp; simp only [Lst.mk.sizeOf_spec] at hn; omega)
 rw [Lst.great] at hlen
 generalize hR : wList x (.mk ps os) = R
 rw [wList] at hR
 obtain ⟨v9, hW0, hX0, hL0⟩ := (Wrt.refl h).base (.cells #[.slice A1 ps.length c1, .slice A2 os.length c2] 39)
 have hca : Chg (fun _ => False) w (w.alloc (.cells #[.slice A1 ps.length c1, .slice A2 os.length c2] 39)) := (Chg.refl _ w).alloc _
 have hrow := row_new w (.cells #[.slice A1 ps.length c1, .slice A2 os.length c2] 39)
 obtain ⟨hcb, hfb⟩ := hW0.row
 generalize hbd : (x.bad || (os.length : Int) != (ps.length : Int) - 1) = bd at hR
 have hob : bd = false → os.length = ps.length - 1 := by
  rw [← hbd]; simp; omega
 have hSB : Wrt b v9 ⟨x.out, bd⟩ (w.alloc (.cells #[.slice A1 ps.length c1, .slice A2 os.length c2] 39)) ((w.alloc (.cells #[.slice A1 ps.length c1, .slice A2 os.length c2] 39)).setCell ⟨b, 2, none⟩ (.bool bd)) := (Wrt.refl hW0).setBad bd
 have r9 : IntKind.i64.wrap ((ps.length : Int) - 1) = (ps.length : Int) - 1 := IntWalk.i64_in _ (by omega)
 have HREP : Hid (∀ y w', Wrt b v9 y (w.alloc (.cells #[.slice A1 ps.length c1, .slice A2 os.length c2] 39)) w' → Rep w' (fun k => k < b) (.sl 42 2 (ps.map Pip.d)) [.slice A1 ps.length c1] ∧ Rep w' (fun k => k < b) (.sl 9 1 (os.map bytesD)) [.slice A2 os.length c2]) :=
  Lib.hid (fun y w' hS => ⟨hS.rep hW0 (hr1.stay hca (fun _ _ e => e)), hS.rep hW0 (hr2.stay hca (fun _ _ e => e))⟩)
 have HROW : Hid (∀ y w', Wrt b v9 y (w.alloc (.cells #[.slice A1 ps.length c1, .slice A2 os.length c2] 39)) w' → w'.heap[w.heap.size]? = some (.cells #[.slice A1 ps.length c1, .slice A2 os.length c2] 39 (0, 0))) :=
  Lib.hid (fun y w' hS => hS.rowAt hrow hX0)
 have HHM : Hid (∀ y w', Wrt b v9 y (w.alloc (.cells #[.slice A1 ps.length c1, .slice A2 os.length c2] 39)) w' → HM w') := Lib.hid (fun y w' hS => hS.hm hb hW0 (hm.stay hca (fun e => e)))
 replace hL0 := Lib.hid hL0
 have HR := Lib.hid hR; clear hR
 replace hob := Lib.hid hob
 have hXc := row_cells hrow 0
 have hXc1 := row_cells hrow 1
 simp only [List.getElem?_toArray, List.getElem?_cons_succ, List.getElem?_cons_zero] at hXc hXc1
 clear hr hr1 hr2 hfd hn h hm hX0 hW0 hca hrow
 go_enter Tryz.func31, Tryz.ntmps31
 go_upto_region 1 with fail
 go_cut [22] (fun v22 wx => Wrt b v9 ⟨x.out, bd⟩ (w.alloc (.cells #[.slice A1 ps.length c1, .slice A2 os.length c2] 39)) wx)
 case first =>
  cases hxb : x.bad with
  | true =>
   rw [hxb] at hcb hbd
   simp only [Bool.true_or] at hbd
   subst hbd
   go_wp2
   go_meet
   exact hSB
  | false =>
   rw [hxb] at hcb hbd
   simp only [Bool.false_or] at hbd
   go_wp2
   go_meet
   exact hSB
 case rest =>
  clear hSB hcb hfb hXc hXc1 hbd r9
  generalize wc = W1 at *
  generalize w.alloc (.cells #[.slice A1 ps.length c1, .slice A2 os.length c2] 39) = W0 at *
  generalize w.heap.size = X at *
  have f1 := HROW.out _ _ hcut
  have x0 := row_cells f1 0
  simp only [List.getElem?_toArray, List.getElem?_cons_succ, List.getElem?_cons_zero] at x0
  clear f1
  go_wp2
  go_loopg [28] ps.length (fun rk i wr => ∃ (k : Nat) (y : Wr), k + rk = ps.length ∧ i = .int .i64 k ∧ Wrt b v9 y W0 wr ∧ y.out.length + ((os.drop (k - 1)).map List.length).sum + 64 * (ps.drop k).length + 64 * greatPips (ps.drop k) ≤ 600000 ∧ Hid (y.bad = false → os.length = ps.length - 1) ∧ Hid (wPipes y os k (ps.drop k) = R))
  case atStart => exact ⟨0, ⟨x.out, bd⟩, by omega, rfl, hcut, by simp only [List.drop_zero, Nat.zero_sub]; omega, hob, Lib.hid (by simpa using HR.out)⟩
  case round =>
   obtain ⟨k, y, hk, rfl, hS, hB, hOB, HK⟩ := hrel
   clear x0 hcut
   generalize wr = W2 at *
   have f1 := HROW.out _ _ hS
   have x0 := row_cells f1 0
   have x1 := row_cells f1 1
   simp only [List.getElem?_toArray, List.getElem?_cons_succ, List.getElem?_cons_zero] at x0 x1
   clear f1
   by_cases hlt : k < ps.length
   ·obtain ⟨p, hp⟩ : ∃ p, ps[k]? = some p := ⟨ps[k], List.getElem?_eq_getElem hlt⟩
    have hd := drop_cons hp
    have hpm := List.mem_of_getElem? hp
    obtain ⟨hrp, hro⟩ := HREP.out _ _ hS
    obtain ⟨b1, o1, c', cs1, hv1, _, _, hb1, hr1, hl1, hcs1⟩ := sl_get hrp (by omega) k (Pip.d p) (by rw [List.getElem?_map, hp]; rfl)
    simp only [List.length_map, Value.slice.injEq] at hv1
    obtain ⟨rfl, _, rfl⟩ := hv1
    obtain ⟨ng, ds⟩ := p
    obtain ⟨vd, rfl, hrd⟩ := pip_rep.1 hr1
    rw [Cmd.ds_map] at hrd
    obtain ⟨A3, c3, rfl⟩ := sl_form2 hrd
    have hx3 := rep_max hrd
    rw [List.length_map] at hrd hx3
    simp only [List.length_map] at hr1 hl1 hcs1
    have k0 := hcs1 0 _ rfl
    have k1 := hcs1 1 _ rfl
    simp only [Nat.add_zero, ← Nat.add_assoc] at k0 k1
    rw [hd, greatPips, Pip.great] at hB
    simp only [List.length_cons] at hB
    have hop := op_len y k os
    have hwp := wPipe_len (.mk ng ds) (y.op k os)
    rw [Pip.great] at hwp
    have hfp := hmem.out _ hpm
    rw [Pip.fds] at hfp
    have hsp := hsz.out _ hpm
    simp only [Pip.mk.sizeOf_spec] at hsp
    have hmem2 := Lib.hid (fdCmds_mem hfp)
    have hsz2 : Hid (∀ c ∈ ds, SizeOf.sizeOf c < n) := Lib.hid (fun c hc => by have := List.sizeOf_lt_of_mem hc; omega)
    obtain ⟨v8, hW5, hZ5, hB5⟩ := hS.base (.cells #[.bool ng, .slice A3 ds.length c3] 42)
    have hca : Chg (fun _ => False) W2 (W2.alloc (.cells #[.bool ng, .slice A3 ds.length c3] 42)) := (Chg.refl _ W2).alloc _
    have hz := row_new W2 (.cells #[.bool ng, .slice A3 ds.length c3] 42)
    have r0 : IntKind.i64.wrap ((k : Int) + 1) = (k : Int) + 1 := IntWalk.i64_in _ (by omega)
    have hbads := hW5.row
    have HZ : Hid (∀ y' w', Wrt b v8 y' (W2.alloc (.cells #[.bool ng, .slice A3 ds.length c3] 42)) w' → w'.heap[W2.heap.size]? = some (.cells #[.bool ng, .slice A3 ds.length c3] 42 (0, 0)) ∧ w'.heap[X]? = some (.cells #[.slice (some ⟨b1, o1, none⟩) ps.length c1, .slice A2 os.length c2] 39 (0, 0)) ∧ HM w' ∧
      Rep w' (fun k => k < b) (.sl 9 1 (os.map bytesD)) [.slice A2 os.length c2] ∧ Rep w' (fun k => k < b) (.sl 49 9 (ds.map Cmd.d)) [.slice A3 ds.length c3]) :=
     Lib.hid (fun y' w' h' => ⟨h'.rowAt hz hZ5, HROW.out _ _ (hB5 _ _ h'), HHM.out _ _ (hB5 _ _ h'), (HREP.out _ _ (hB5 _ _ h')).2, h'.rep hW5 (hrd.stay hca (fun _ _ e => e))⟩)
    have hS5 := Wrt.refl hW5
    replace hB5 := Lib.hid hB5
    obtain ⟨hcb, hfb⟩ := hbads
    have HK1 : Hid (wPipes (wPipe (y.op k os) (.mk ng ds)) os (k + 1) (ps.drop (k + 1)) = R) := Lib.hid (by rw [← HK.out, hd, wPipes])
    clear hrp hr1 hl1 hcs1 hp hd hpm hrd hfp hsp hW5 hZ5 hca hz hS HK hro
    go_upto_region 5 with fail
    go_cut [41] (fun v41 wx => v41 = .bool (decide (0 < k) && !y.bad) ∧ wx = W2.alloc (.cells #[.bool ng, .slice A3 ds.length c3] 42))
    case first =>
     by_cases h0 : 0 < k
     ·have q0 : decide ((0 : Int) < (k : Int)) = true := by simp; omega
      cases hyb : y.bad with
      | true =>
       rw [hyb] at hcb
       go_wp2
       go_meet
       exact ⟨by simp [hyb], rfl⟩
      | false =>
       rw [hyb] at hcb
       go_wp2
       go_meet
       exact ⟨by simp [h0, hyb], rfl⟩
     ·have q0 : decide ((0 : Int) < (k : Int)) = false := by simp; omega
      go_wp2
      go_meet
      exact ⟨by simp [h0], rfl⟩
    case rest =>
     obtain ⟨rfl, hwx⟩ := hcut
     replace hS5 : Wrt b v8 y (W2.alloc (.cells #[.bool ng, .slice A3 ds.length c3] 42)) wc := by rw [hwx]; exact hS5
     clear hwx
     generalize wc = W3 at *
     obtain ⟨m1, m2, _, hro, _⟩ := HZ.out _ _ hS5
     have xx1 := row_cells m2 1
     simp only [List.getElem?_toArray, List.getElem?_cons_succ, List.getElem?_cons_zero] at xx1
     go_upto_if 41 with fail
     go_cut [47] (fun v47 wx => Wrt b v8 (y.op k os) (W2.alloc (.cells #[.bool ng, .slice A3 ds.length c3] 42)) wx)
     case first =>
      cases hcd : (decide (0 < k) && !y.bad) with
      | false =>
       have hop1 : y.op k os = y := by rw [Wr.op, hcd]; rfl
       go_wp2
       go_meet
       rw [hop1]; exact hS5
      | true =>
       have h0 : 0 < k ∧ y.bad = false := by simpa using hcd
       have hol := hOB.out h0.2
       obtain ⟨s, hs⟩ : ∃ s, os[k - 1]? = some s := ⟨os[k - 1]'(by omega), List.getElem?_eq_getElem (by omega)⟩
       obtain ⟨b3, o3, c3', cs3, hv3, _, _, hb3, hr3, hl3, hcs3⟩ := sl_get hro (by omega) (k - 1) (bytesD s) (by rw [List.getElem?_map, hs]; rfl)
       simp only [List.length_map, Value.slice.injEq] at hv3
       obtain ⟨rfl, _, rfl⟩ := hv3
       have e3 : cs3 = [.string (bstr s)] := hr3
       subst e3
       have k3 := hcs3 0 _ rfl
       simp only [Nat.add_zero, Nat.mul_one, ← Nat.add_assoc] at k3
       have hop1 : y.op k os = y.put ([32] ++ (s ++ [32])) := by rw [Wr.op, hcd, hs]; rfl
       have r1 : IntKind.i64.wrap ((k : Int) - 1) = ((k - 1 : Nat) : Int) := by rw [IntWalk.i64_in _ (by omega)]; omega
       have hkl : k - 1 < os.length := by omega
       have HPU : Hid (Calls Tryz.prog 32 #[.pointer (some ⟨b, 0, none⟩), .slice (some ⟨W3.heap.size, 0, none⟩) 3 3] (W3.alloc (.cells #[.string ⟨#[32]⟩, .string (bstr s), .string ⟨#[32]⟩] 9)) fun e w'' => e = .returned (.tuple #[]) ∧ Wrt b v8 (y.op k os) (W2.alloc (.cells #[.bool ng, .slice A3 ds.length c3] 42)) w'') :=
        Lib.hid (by
         have hg := (get_le os (k - 1)).2
         rw [hs] at hg
         simp only [Option.getD_some] at hg
         have hc := hS5.call (fun v6 hw6 => put_three b v6 _ ⟨#[32]⟩ (bstr s) ⟨#[32]⟩ W3 hw6 (by rw [bstr_size]; show _ + (1 + _ + 1) ≤ _; omega))
         rw [bstr_toList] at hc
         rw [hop1]
         exact hc)
       clear hop1 hs hr3 hl3 hcs3 hol hcd hro
       generalize bstr s = sb at *
       generalize k - 1 = km at *
       go_wp2_with fail
       refine Calls.mono HPU.out ?_
       rintro e w4 ⟨rfl, hS6⟩
       clear HPU
       go_wp2
       go_meet
       exact hS6
     case rest =>
      clear xx1 hro m1 m2 hS5
      generalize wc = W4 at *
      obtain ⟨m1, _, _, _, _⟩ := HZ.out _ _ hcut
      have z0 := row_cells m1 0
      simp only [List.getElem?_toArray, List.getElem?_cons_succ, List.getElem?_cons_zero] at z0
      clear m1
      have HPU : Hid (Calls Tryz.prog 32 #[.pointer (some ⟨b, 0, none⟩), .slice (some ⟨W4.heap.size, 0, none⟩) 1 1] (W4.alloc (.cells #[.string ⟨#[33, 32]⟩] 9)) fun e w'' => e = .returned (.tuple #[]) ∧ Wrt b v8 ((y.op k os).put [33, 32]) (W2.alloc (.cells #[.bool ng, .slice A3 ds.length c3] 42)) w'') :=
       Lib.hid (hcut.call (fun v6 hw6 => put_lit b v6 _ ⟨#[33, 32]⟩ W4 hw6 (by show _ + 2 ≤ _; omega)))
      have HB1 : (wPipe (y.op k os) (.mk ng ds)).out.length + ((os.drop (k + 1 - 1)).map List.length).sum + 64 * (ps.drop (k + 1)).length + 64 * greatPips (ps.drop (k + 1)) ≤ 600000 := by
       rw [Nat.add_sub_cancel]; omega
      have HOB1 : Hid ((wPipe (y.op k os) (.mk ng ds)).bad = false → os.length = ps.length - 1) := Lib.hid (fun e => hOB.out (by
       cases hyb : y.bad with
       | false => rfl
       | true => rw [wPipe_bad _ _ (op_bad k os hyb)] at e; cases e))
      have HW : Hid (wCmds (if ng then (y.op k os).put [33, 32] else y.op k os) 0 ds = wPipe (y.op k os) (.mk ng ds)) := Lib.hid (by rw [wPipe])
      have hB2 : (if ng then (y.op k os).put [33, 32] else y.op k os).out.length + 64 * ds.length + 64 * greatCmds ds ≤ 600000 := by
       have : (if ng then (y.op k os).put [33, 32] else y.op k os).out.length ≤ (y.op k os).out.length + 2 := by split <;> simp [put_len]
       omega
      replace HK1 := Lib.hid HK1
      generalize wPipe (y.op k os) (.mk ng ds) = yN at *
      clear hB hop hwp hOB
      go_upto_if 52 with fail
      go_cut [54] (fun v54 wx => Wrt b v8 (if ng then (y.op k os).put [33, 32] else y.op k os) (W2.alloc (.cells #[.bool ng, .slice A3 ds.length c3] 42)) wx)
      case first =>
       generalize y.op k os = y1 at *
       cases ng with
       | false =>
        go_wp2
        go_meet
        simpa using hcut
       | true =>
        go_wp2_with fail
        refine Calls.mono HPU.out ?_
        rintro e w4 ⟨rfl, hS6⟩
        clear HPU
        go_wp2
        go_meet
        simpa using hS6
      case rest =>
       have hS6 := hcut
       clear hcut z0 HPU
       generalize wc = W6 at *
       generalize W2.alloc (.cells #[.bool ng, .slice A3 ds.length c3] 42) = WB at *
       generalize (if ng then (y.op k os).put [33, 32] else y.op k os) = y1 at *
       obtain ⟨m1, _, _, _, _⟩ := HZ.out _ _ hS6
       have z1 := row_cells m1 1
       simp only [List.getElem?_toArray, List.getElem?_cons_succ, List.getElem?_cons_zero] at z1
       clear m1
       go_wp2
       go_loopg [59] ds.length (fun rk i wr => ∃ (q : Nat) (y3 : Wr), q + rk = ds.length ∧ i = .int .i64 q ∧ Wrt b v8 y3 WB wr ∧ y3.out.length + 64 * (ds.drop q).length + 64 * greatCmds (ds.drop q) ≤ 600000 ∧ Hid (wCmds y3 q (ds.drop q) = yN))
       case atStart => exact ⟨0, y1, by omega, rfl, hS6, by simpa using hB2, Lib.hid (by simpa using HW.out)⟩
       case round =>
        obtain ⟨q, y3, hq, rfl, hS7, hB7, HK7⟩ := hrel
        clear z1 hS6
        generalize wr = W7 at *
        by_cases hlq : q < ds.length
        ·obtain ⟨c, hc⟩ : ∃ c, ds[q]? = some c := ⟨ds[q], List.getElem?_eq_getElem hlq⟩
         have hdc := drop_cons hc
         have hcm := List.mem_of_getElem? hc
         obtain ⟨m1, _, hm7, _, hrc⟩ := HZ.out _ _ hS7
         have z1 := row_cells m1 1
         simp only [List.getElem?_toArray, List.getElem?_cons_succ, List.getElem?_cons_zero] at z1
         obtain ⟨b3, o3, c3', cs3, hv3, _, _, hb3, hr3, hl3, hcs3⟩ := sl_get hrc (by omega) q (Cmd.d c) (by rw [List.getElem?_map, hc]; rfl)
         simp only [List.length_map, Value.slice.injEq] at hv3
         obtain ⟨rfl, _, rfl⟩ := hv3
         obtain ⟨kd, nb, B1, j1, d1, B2, j2, d2, B3, j3, d3, B4, j4, d4, B5, j5, d5, B6, j6, d6, B7, j7, d7, rfl⟩ := cmd_form hr3
         have e0 := hcs3 0 _ rfl
         have e1 := hcs3 1 _ rfl
         have e2 := hcs3 2 _ rfl
         have e3 := hcs3 3 _ rfl
         have e4 := hcs3 4 _ rfl
         have e5 := hcs3 5 _ rfl
         have e6 := hcs3 6 _ rfl
         have e7 := hcs3 7 _ rfl
         have e8 := hcs3 8 _ rfl
         simp only [Nat.add_zero, ← Nat.add_assoc] at e0 e1 e2 e3 e4 e5 e6 e7 e8
         rw [hdc, greatCmds] at hB7
         simp only [List.length_cons] at hB7
         have hy4 : (if 0 < q then y3.put [32, 124, 32] else y3).out.length ≤ y3.out.length + 3 := by split <;> simp [put_len]
         have hwc := wCmd_len c (if 0 < q then y3.put [32, 124, 32] else y3)
         obtain ⟨v7, hW8, hZ8, hB8⟩ := hS7.base (.cells #[.int .i64 kd, .string nb, .slice B1 j1 d1, .slice B2 j2 d2, .slice B3 j3 d3, .slice B4 j4 d4, .slice B5 j5 d5, .slice B6 j6 d6, .slice B7 j7 d7] 49)
         have hca8 : Chg (fun _ => False) W7 (W7.alloc (.cells #[.int .i64 kd, .string nb, .slice B1 j1 d1, .slice B2 j2 d2, .slice B3 j3 d3, .slice B4 j4 d4, .slice B5 j5 d5, .slice B6 j6 d6, .slice B7 j7 d7] 49)) := (Chg.refl _ W7).alloc _
         have hz8 := row_new W7 (.cells #[.int .i64 kd, .string nb, .slice B1 j1 d1, .slice B2 j2 d2, .slice B3 j3 d3, .slice B4 j4 d4, .slice B5 j5 d5, .slice B6 j6 d6, .slice B7 j7 d7] 49)
         have r1 : IntKind.i64.wrap ((q : Int) + 1) = (q : Int) + 1 := IntWalk.i64_in _ (by omega)
         have HCM : Hid (∀ w', Wrt b v7 (if 0 < q then y3.put [32, 124, 32] else y3) (W7.alloc (.cells #[.int .i64 kd, .string nb, .slice B1 j1 d1, .slice B2 j2 d2, .slice B3 j3 d3, .slice B4 j4 d4, .slice B5 j5 d5, .slice B6 j6 d6, .slice B7 j7 d7] 49)) w' → w'.heap[W7.heap.size]? = some (.cells #[.int .i64 kd, .string nb, .slice B1 j1 d1, .slice B2 j2 d2, .slice B3 j3 d3, .slice B4 j4 d4, .slice B5 j5 d5, .slice B6 j6 d6, .slice B7 j7 d7] 49 (0, 0)) ∧
           Calls Tryz.prog 51 #[.pointer (some ⟨b, 0, none⟩), .agg #[.int .i64 kd, .string nb, .slice B1 j1 d1, .slice B2 j2 d2, .slice B3 j3 d3, .slice B4 j4 d4, .slice B5 j5 d5, .slice B6 j6 d6, .slice B7 j7 d7]] w' fun e w'' => e = .returned (.tuple #[]) ∧ Wrt b v8 (wCmd (if 0 < q then y3.put [32, 124, 32] else y3) c) WB w'') :=
          Lib.hid (fun w' h' => ⟨h'.rowAt hz8 hZ8, by
           have hrep := h'.rep hW8 (hr3.stay hca8 (fun _ _ e => e))
           have hhm := h'.hm hb hW8 (hm7.stay hca8 (fun e => e))
           have hcc := h'.call (fun v6 hw6 => IH b v6 _ w' _ c (hsz2.out c hcm) hw6 hb hhm (hmem2.out c hcm) (by omega) hrep)
           refine Calls.mono hcc ?_
           rintro e w'' ⟨rfl, hS'⟩
           exact ⟨rfl, hB8 _ _ hS'⟩⟩)
         have hS8 := Wrt.refl hW8
         have HPU : Hid (0 < q → Calls Tryz.prog 32 #[.pointer (some ⟨b, 0, none⟩), .slice (some ⟨W7.heap.size + 1, 0, none⟩) 1 1] ((W7.alloc (.cells #[.int .i64 kd, .string nb, .slice B1 j1 d1, .slice B2 j2 d2, .slice B3 j3 d3, .slice B4 j4 d4, .slice B5 j5 d5, .slice B6 j6 d6, .slice B7 j7 d7] 49)).alloc (.cells #[.string ⟨#[32, 124, 32]⟩] 9)) fun e w'' => e = .returned (.tuple #[]) ∧ Wrt b v7 (if 0 < q then y3.put [32, 124, 32] else y3) (W7.alloc (.cells #[.int .i64 kd, .string nb, .slice B1 j1 d1, .slice B2 j2 d2, .slice B3 j3 d3, .slice B4 j4 d4, .slice B5 j5 d5, .slice B6 j6 d6, .slice B7 j7 d7] 49)) w'') :=
          Lib.hid (fun h0 => by
           have hp := put_lit b v7 y3 ⟨#[32, 124, 32]⟩ _ hW8 (by show _ + 3 ≤ _; omega)
           rw [World.size_alloc] at hp
           rw [if_pos h0]
           exact hp)
         have HK8 : Hid (wCmds (wCmd (if 0 < q then y3.put [32, 124, 32] else y3) c) (q + 1) (ds.drop (q + 1)) = yN) := Lib.hid (by rw [← HK7.out, hdc, wCmds])
         have hB9 : (wCmd (if 0 < q then y3.put [32, 124, 32] else y3) c).out.length + 64 * (ds.drop (q + 1)).length + 64 * greatCmds (ds.drop (q + 1)) ≤ 600000 := by omega
         have hq0 : ¬ 0 < q → (if 0 < q then y3.put [32, 124, 32] else y3) = y3 := fun h => if_neg h
         replace hq0 := Lib.hid hq0
         generalize wCmd (if 0 < q then y3.put [32, 124, 32] else y3) c = y5 at *
         clear hdc hcm hm7 hrc hr3 hl3 hcs3 hB7 hy4 hwc hW8 hZ8 hB8 hca8 hz8 hS7 HK7 m1 hc
         generalize (if 0 < q then y3.put [32, 124, 32] else y3) = y4 at *
         go_upto_if 65 with fail
         go_cut [67] (fun v67 wx => Wrt b v7 y4 (W7.alloc (.cells #[.int .i64 kd, .string nb, .slice B1 j1 d1, .slice B2 j2 d2, .slice B3 j3 d3, .slice B4 j4 d4, .slice B5 j5 d5, .slice B6 j6 d6, .slice B7 j7 d7] 49)) wx)
         case first =>
          by_cases h0 : 0 < q
          ·have q0 : decide ((0 : Int) < (q : Int)) = true := by simp; omega
           have HP := Lib.hid (HPU.out h0)
           clear HPU
           go_wp2_with fail
           refine Calls.mono HP.out ?_
           rintro e w4 ⟨rfl, hS9⟩
           clear HP
           go_wp2
           go_meet
           exact hS9
          ·have q0 : decide ((0 : Int) < (q : Int)) = false := by simp; omega
           have e9 := hq0.out h0
           go_wp2
           go_meet
           rw [e9]; exact hS8
         case rest =>
          have hS9 := hcut
          clear hcut hS8 HPU hq0 e0 e1 e2 e3 e4 e5 e6 e7 e8 z1
          generalize wc = W9 at *
          obtain ⟨m1, HC⟩ := HCM.out _ hS9
          have hcl := row_cells m1
          have g0 := hcl 0
          have g1 := hcl 1
          have g2 := hcl 2
          have g3 := hcl 3
          have g4 := hcl 4
          have g5 := hcl 5
          have g6 := hcl 6
          have g7 := hcl 7
          have g8 := hcl 8
          simp only [List.getElem?_toArray, List.getElem?_cons_succ, List.getElem?_cons_zero] at g0 g1 g2 g3 g4 g5 g6 g7 g8
          replace HC := Lib.hid HC
          clear HCM m1 hcl
          go_wp2_with fail
          refine Calls.mono HC.out ?_
          rintro e w4 ⟨rfl, hS10⟩
          clear HC
          go_wp2
          go_roundg (ds.length - (q + 1))
          case measure => omega
          case rel => exact ⟨q + 1, _, by omega, rfl, hS10, hB9, HK8⟩
        ·have hq2 : q = ds.length := by omega
         subst hq2
         have hy : y3 = yN := by rw [← HK7.out, List.drop_eq_nil_of_le (Nat.le_refl _), wCmds]
         subst hy
         have hS8 := hB5.out _ _ hS7
         obtain ⟨m1, _, _, _, _⟩ := HZ.out _ _ hS7
         have z1 := row_cells m1 1
         simp only [List.getElem?_toArray, List.getElem?_cons_succ, List.getElem?_cons_zero] at z1
         clear HK7 hB7 m1
         go_wp2
         go_roundg (ps.length - (k + 1))
         case measure => omega
         case rel => exact ⟨k + 1, _, by omega, rfl, hS8, HB1, HOB1, HK1.out |> Lib.hid⟩
   ·have hk2 : k = ps.length := by omega
    subst hk2
    have hy : y = R := by rw [← HK.out, List.drop_eq_nil_of_le (Nat.le_refl _), wPipes]
    subst hy
    clear HK hB
    go_wp2
    go_end0
    exact ⟨rfl, hL0.out _ _ hS⟩
set_option maxRecDepth 100000 in
set_option maxHeartbeats 4000000 in
theorem wloop_calls (n : Nat) (IH : WLs n) (b : Nat) (v : Value) (x : Wr) (w : World) (vl : Value) (ls : List Lst) (hn : SizeOf.sizeOf ls < n) (h : WV b v x w) (hb : 0 < b) (hm : HM w) (hfd : fdLs ls) (hlen : x.out.length + 3 + 64 * greatLs ls ≤ 600000) (hr : Rep w (fun k => k < b) (.sl 39 2 (Lst.ds ls)) [vl]) :
  Calls Tryz.prog 65 #[.pointer (some ⟨b, 0, none⟩), vl] w fun e w' => e = .returned (.tuple #[]) ∧ Wrt b v ((wLists (x.put [100, 111, 10]) ls).put [100, 111, 110, 101]) w w' := by
 have hwl := wLists_len ls (x.put [100, 111, 10])
 rw [put_len] at hwl
 simp only [List.length_cons, List.length_nil] at hwl
 have H1 := Lib.hid (put_lit b v x ⟨#[100, 111, 10]⟩ w h (by show _ + 3 ≤ _; omega))
 have H2 : Hid (∀ w', Wrt b v (x.put [100, 111, 10]) w w' → Calls Tryz.prog 16 #[.pointer (some ⟨b, 0, none⟩), vl] w' fun e w'' => e = .returned (.tuple #[]) ∧ Wrt b v (wLists (x.put [100, 111, 10]) ls) w w'') :=
  Lib.hid (fun w' h' => h'.call (fun v6 hw6 => IH b v6 _ w' vl ls hn hw6 hb (h'.hm hb h hm) hfd (by rw [put_len]; simp only [List.length_cons, List.length_nil]; omega) (h'.rep h hr)))
 have H3 : Hid (∀ w', Wrt b v (wLists (x.put [100, 111, 10]) ls) w w' → Calls Tryz.prog 32 #[.pointer (some ⟨b, 0, none⟩), .slice (some ⟨w'.heap.size, 0, none⟩) 1 1] (w'.alloc (.cells #[.string ⟨#[100, 111, 110, 101]⟩] 9)) fun e w'' => e = .returned (.tuple #[]) ∧ Wrt b v ((wLists (x.put [100, 111, 10]) ls).put [100, 111, 110, 101]) w w'') :=
  Lib.hid (fun w' h' => h'.call (fun v6 hw6 => put_lit b v6 _ ⟨#[100, 111, 110, 101]⟩ w' hw6 (by show _ + 4 ≤ _; omega)))
 clear hwl hr hm h hfd hlen
 generalize (wLists (x.put [100, 111, 10]) ls).put [100, 111, 110, 101] = y3 at *
 generalize wLists (x.put [100, 111, 10]) ls = y2 at *
 go_enter Tryz.func65, Tryz.ntmps65
 go_wp2_with fail
 refine Calls.mono H1.out ?_
 rintro e w1 ⟨rfl, hS1⟩
 have H2' := Lib.hid (H2.out _ hS1)
 clear H1 H2 hS1
 go_wp2_with fail
 refine Calls.mono H2'.out ?_
 rintro e w2 ⟨rfl, hS2⟩
 have H3' := Lib.hid (H3.out _ hS2)
 clear H2' H3 hS2
 go_wp2_with fail
 refine Calls.mono H3'.out ?_
 rintro e w3 ⟨rfl, hS3⟩
 clear H3'
 go_wp2
 go_end0
 exact ⟨rfl, hS3⟩
theorem Wrt.cellAt {b : Nat} {v : Value} {x y : Wr} {w1 wr : World} (hv : WV b v x w1) (h : Wrt b v y w1 wr) {b1 o : Nat} {u : Value} (hb : b1 < b) (hc1 : w1.cell? ⟨b1, o, none⟩ = some u) : wr.cell? ⟨b1, o, none⟩ = some u := by
 obtain ⟨v1, hw, hc, ho⟩ := h
 exact hc.cell hc1 (fun e => by
  rcases e with e | e
  ·simp only at e; omega
  ·have := (hv.own _ e.symm).1; simp only at this; omega)
set_option maxRecDepth 100000 in
set_option maxHeartbeats 8000000 in
theorem wchoice_calls (n : Nat) (IH : WLs n) (b : Nat) (v : Value) (x : Wr) (w : World) (kd : Int) (nm : Bytes) (xs : List Asg) (ws : List (List Part)) (co bo ot : List Lst) (ca : List Cas) (rs : List Rdr) (cs : List Value) (hn : SizeOf.sizeOf ca < n) (h : WV b v x w) (hb : 0 < b) (hm : HM w)
  (hfd : fdCas ca) (hlen : x.out.length + 32 + 64 * (greatWords ws + ca.length + greatCas ca) ≤ 600000) (hr : Rep w (fun k => k < b) (Cmd.d (.mk kd nm xs ws co bo ot ca rs)) cs) :
  Calls Tryz.prog 67 #[.pointer (some ⟨b, 0, none⟩), .agg cs.toArray] w fun e w' => e = .returned (.tuple #[]) ∧ Wrt b v ((wCases ((cWords (x.put [99, 97, 115, 101, 32]) ws).put [32, 105, 110, 10]) ca).put [101, 115, 97, 99]) w w' := by
 obtain ⟨v1, v2, v3, v4, v5, v6, v7, rfl, hr1, hr2, hr3, hr4, hr5, hr6, hr7⟩ := cmd_rep.1 hr
 rw [Cas.ds_map] at hr6
 obtain ⟨A1, l1, c1, rfl⟩ := sl_formN hr1
 obtain ⟨A3, l3, c3, rfl⟩ := sl_formN hr3
 obtain ⟨A4, l4, c4, rfl⟩ := sl_formN hr4
 obtain ⟨A5, l5, c5, rfl⟩ := sl_formN hr5
 obtain ⟨A7, l7, c7, rfl⟩ := sl_formN hr7
 clear hr hr1 hr3 hr4 hr5 hr7
 obtain ⟨A2, c2, rfl⟩ := sl_form2 hr2
 obtain ⟨A6, c6, rfl⟩ := sl_form2 hr6
 have hx2 := rep_max hr2
 have hx6 := rep_max hr6
 rw [List.length_map] at hx2 hx6
 simp only [List.length_map] at hr2 hr6 ⊢
 generalize bstr nm = nb at *
 have hl1 := cWords_len ws (x.put [99, 97, 115, 101, 32])
 have hl2 := wCases_len ca ((cWords (x.put [99, 97, 115, 101, 32]) ws).put [32, 105, 110, 10])
 simp only [put_len, List.length_cons, List.length_nil] at hl1 hl2
 obtain ⟨v9, hW0, hX0, hL0⟩ := (Wrt.refl h).base (.cells #[.int .i64 kd, .string nb, (.slice A1 l1 c1), .slice A2 ws.length c2, (.slice A3 l3 c3), (.slice A4 l4 c4), (.slice A5 l5 c5), .slice A6 ca.length c6, (.slice A7 l7 c7)] 49)
 have hca : Chg (fun _ => False) w (w.alloc (.cells #[.int .i64 kd, .string nb, (.slice A1 l1 c1), .slice A2 ws.length c2, (.slice A3 l3 c3), (.slice A4 l4 c4), (.slice A5 l5 c5), .slice A6 ca.length c6, (.slice A7 l7 c7)] 49)) := (Chg.refl _ w).alloc _
 have hrow := row_new w (.cells #[.int .i64 kd, .string nb, (.slice A1 l1 c1), .slice A2 ws.length c2, (.slice A3 l3 c3), (.slice A4 l4 c4), (.slice A5 l5 c5), .slice A6 ca.length c6, (.slice A7 l7 c7)] 49)
 have HPE : Hid (∀ y' s w', Wrt b v9 y' (w.alloc (.cells #[.int .i64 kd, .string nb, (.slice A1 l1 c1), .slice A2 ws.length c2, (.slice A3 l3 c3), (.slice A4 l4 c4), (.slice A5 l5 c5), .slice A6 ca.length c6, (.slice A7 l7 c7)] 49)) w' → y'.out.length + s.size ≤ 1000000 → Calls Tryz.prog 32 #[.pointer (some ⟨b, 0, none⟩), .slice (some ⟨w'.heap.size, 0, none⟩) 1 1] (w'.alloc (.cells #[.string s] 9)) fun e w'' => e = .returned (.tuple #[]) ∧ Wrt b v9 (y'.put s.data.toList) (w.alloc (.cells #[.int .i64 kd, .string nb, (.slice A1 l1 c1), .slice A2 ws.length c2, (.slice A3 l3 c3), (.slice A4 l4 c4), (.slice A5 l5 c5), .slice A6 ca.length c6, (.slice A7 l7 c7)] 49)) w'') :=
  Lib.hid (fun y' s w' h' hle => h'.call (fun v6 hw6 => put_lit b v6 _ s w' hw6 hle))
 have HROW : Hid (∀ y w', Wrt b v9 y (w.alloc (.cells #[.int .i64 kd, .string nb, (.slice A1 l1 c1), .slice A2 ws.length c2, (.slice A3 l3 c3), (.slice A4 l4 c4), (.slice A5 l5 c5), .slice A6 ca.length c6, (.slice A7 l7 c7)] 49)) w' → w'.heap[w.heap.size]? = some (.cells #[.int .i64 kd, .string nb, (.slice A1 l1 c1), .slice A2 ws.length c2, (.slice A3 l3 c3), (.slice A4 l4 c4), (.slice A5 l5 c5), .slice A6 ca.length c6, (.slice A7 l7 c7)] 49 (0, 0)) ∧ HM w') :=
  Lib.hid (fun y w' hS => ⟨hS.rowAt hrow hX0, hS.hm hb hW0 (hm.stay hca (fun e => e))⟩)
 have HRW := Lib.hid (hr2.stay hca (fun _ _ e => e))
 have HRC := Lib.hid (hr6.stay hca (fun _ _ e => e))
 have hS0 := Wrt.refl hW0
 replace hL0 := Lib.hid hL0
 replace hW0 := Lib.hid hW0
 clear hr2 hr6 hm h hca hrow hX0
 have hP1 := HPE.out _ ⟨#[99, 97, 115, 101, 32]⟩ _ hS0 (by show _ + 5 ≤ _; omega)
 rw [World.size_alloc] at hP1
 replace hP1 := Lib.hid hP1
 generalize hRF : (wCases ((cWords (x.put [99, 97, 115, 101, 32]) ws).put [32, 105, 110, 10]) ca).put [101, 115, 97, 99] = RF
 have HRF := Lib.hid hRF; clear hRF
 go_enter Tryz.func67, Tryz.ntmps67
 go_wp2_with fail
 refine Calls.mono hP1.out ?_
 rintro e w1 ⟨rfl, hS1⟩
 clear hP1 hS0
 replace hS1 : Wrt b v9 (x.put [99, 97, 115, 101, 32]) (w.alloc (.cells #[.int .i64 kd, .string nb, (.slice A1 l1 c1), .slice A2 ws.length c2, (.slice A3 l3 c3), (.slice A4 l4 c4), (.slice A5 l5 c5), .slice A6 ca.length c6, (.slice A7 l7 c7)] 49)) w1 := hS1
 have hr1c := row_cells (HROW.out _ _ hS1).1 3
 simp only [List.getElem?_toArray, List.getElem?_cons_succ, List.getElem?_cons_zero] at hr1c
 have hB1 : (x.put [99, 97, 115, 101, 32]).out.length + 32 * greatWords ws ≤ 600000 := by simp only [put_len, List.length_cons, List.length_nil]; omega
 generalize hR1 : cWords (x.put [99, 97, 115, 101, 32]) ws = R1 at *
 have HR1 := Lib.hid hR1; clear hR1
 generalize x.put [99, 97, 115, 101, 32] = y0 at *
 generalize (w.alloc (.cells #[.int .i64 kd, .string nb, (.slice A1 l1 c1), .slice A2 ws.length c2, (.slice A3 l3 c3), (.slice A4 l4 c4), (.slice A5 l5 c5), .slice A6 ca.length c6, (.slice A7 l7 c7)] 49)) = WB at *
 generalize w.heap.size = X at *
 go_upto_block 0 with fail
 go_cut [16] (fun v16 wx => Wrt b v9 R1 WB wx)
 case first =>
  go_wp2
  go_loopg [16] ws.length (fun rk i wr => ∃ (k : Nat) (y : Wr), k + rk = ws.length ∧ i = .int .i64 k ∧ Wrt b v9 y WB wr ∧ y.out.length + 32 * greatWords (ws.drop k) ≤ 600000 ∧ Hid (cWords y (ws.drop k) = R1))
  case atStart => exact ⟨0, y0, by omega, rfl, hS1, by simpa using hB1, Lib.hid (by simpa using HR1.out)⟩
  case round =>
   obtain ⟨k, y, hk, rfl, hS, hB, HK⟩ := hrel
   clear hr1c hS1
   generalize wr = W2 at *
   by_cases hlt : k < ws.length
   ·obtain ⟨p, hp⟩ : ∃ p, ws[k]? = some p := ⟨ws[k], List.getElem?_eq_getElem hlt⟩
    have hd := drop_cons hp
    obtain ⟨b1, o1, c', cs1, hv1, _, _, hb1, hr1, hl1', hcs1⟩ := sl_get HRW.out (by omega) k (wordD p) (by rw [List.getElem?_map, hp]; rfl)
    simp only [List.length_map, Value.slice.injEq] at hv1
    obtain ⟨rfl, _, rfl⟩ := hv1
    obtain ⟨vw, rfl, hw1⟩ := rep_sl hr1
    obtain ⟨Aw, nw, cw, rfl⟩ := sl_formN hw1
    have k0 := hS.cellAt hW0.out hb1 (hcs1 0 _ rfl)
    simp only [Nat.add_zero, Nat.mul_one, ← Nat.add_assoc] at k0
    rw [hd] at hB
    simp only [greatWords, List.length_cons, List.map_cons, List.sum_cons] at hB
    have hrl := word_len y p
    have r0 : IntKind.i64.wrap ((k : Int) + 1) = (k : Int) + 1 := IntWalk.i64_in _ (by omega)
    have HWD := Lib.hid (hS.call (fun v6 hw6 => wword_calls b v6 _ W2 (.slice Aw nw cw) p hw6 hb (HROW.out _ _ hS).2 (by omega) (by omega) (hS.rep hW0.out hw1)))
    have HK1 : Hid (cWords (y.word p) (ws.drop (k + 1)) = R1) := Lib.hid (by rw [← HK.out, hd, cWords])
    have hB2 : (y.word p).out.length + 32 * greatWords (ws.drop (k + 1)) ≤ 600000 := by simp only [greatWords]; omega
    clear hd hr1 hl1' hcs1 hw1 hB hrl hp hS HK
    generalize y.word p = y9 at *
    go_wp2_with fail
    refine Calls.mono HWD.out ?_
    rintro e w4 ⟨rfl, hS4⟩
    clear HWD
    go_wp2
    go_roundg (ws.length - (k + 1))
    case measure => omega
    case rel => exact ⟨k + 1, _, by omega, rfl, hS4, hB2, HK1⟩
   ·have hk2 : k = ws.length := by omega
    subst hk2
    have hy : y = R1 := by rw [← HK.out, List.drop_eq_nil_of_le (Nat.le_refl _)]; rfl
    subst hy
    clear HK hB
    go_wp2
    go_meet
    exact hS
 case rest =>
  have hS2 := hcut
  clear hcut hr1c hS1
  generalize wc = W2 at *
  have hP2 := Lib.hid (HPE.out _ ⟨#[32, 105, 110, 10]⟩ _ hS2 (by show _ + 4 ≤ _; omega))
  go_wp2_with fail
  refine Calls.mono hP2.out ?_
  rintro e w3 ⟨rfl, hS3⟩
  clear hP2 hS2
  replace hS3 : Wrt b v9 (R1.put [32, 105, 110, 10]) WB w3 := hS3
  have hr1c := row_cells (HROW.out _ _ hS3).1 7
  simp only [List.getElem?_toArray, List.getElem?_cons_succ, List.getElem?_cons_zero] at hr1c
  have hB3 : (R1.put [32, 105, 110, 10]).out.length + 64 * ca.length + 64 * greatCas ca ≤ 600000 := by simp only [put_len, List.length_cons, List.length_nil]; omega
  have hB4 : (wCases (R1.put [32, 105, 110, 10]) ca).out.length ≤ 600000 := by omega
  have hmem := Lib.hid (fdCas_mem hfd)
  have hsz : Hid (∀ c ∈ ca, SizeOf.sizeOf c < n) := Lib.hid (fun c hc => by have := List.sizeOf_lt_of_mem hc; omega)
  clear hl1 hl2 hfd hn hlen hB1 HR1
  generalize hR2 : wCases (R1.put [32, 105, 110, 10]) ca = R2 at *
  have HR2 := Lib.hid hR2; clear hR2
  generalize R1.put [32, 105, 110, 10] = y1 at *
  go_upto_block 2 with fail
  go_cut [30] (fun v30 wx => Wrt b v9 R2 WB wx)
  case first =>
   go_wp2
   go_loopg [30] ca.length (fun rk i wr => ∃ (k : Nat) (y : Wr), k + rk = ca.length ∧ i = .int .i64 k ∧ Wrt b v9 y WB wr ∧ y.out.length + 64 * (ca.drop k).length + 64 * greatCas (ca.drop k) ≤ 600000 ∧ Hid (wCases y (ca.drop k) = R2))
   case atStart => exact ⟨0, y1, by omega, rfl, hS3, by simpa using hB3, Lib.hid (by simpa using HR2.out)⟩
   case round =>
    obtain ⟨k, y, hk, rfl, hS, hB, HK⟩ := hrel
    clear hr1c hS3
    generalize wr = W4 at *
    by_cases hlt : k < ca.length
    ·obtain ⟨p, hp⟩ : ∃ p, ca[k]? = some p := ⟨ca[k], List.getElem?_eq_getElem hlt⟩
     have hd := drop_cons hp
     have hpm := List.mem_of_getElem? hp
     obtain ⟨b1, o1, c', cs1, hv1, _, _, hb1, hr1, hl1', hcs1⟩ := sl_get HRC.out (by omega) k (Cas.d p) (by rw [List.getElem?_map, hp]; rfl)
     simp only [List.length_map, Value.slice.injEq] at hv1
     obtain ⟨rfl, _, rfl⟩ := hv1
     obtain ⟨ps, bd⟩ := p
     obtain ⟨u1, u2, rfl, hw1, hw2⟩ := cas_rep.1 hr1
     obtain ⟨B1, d1, rfl⟩ := sl_form2 hw1
     obtain ⟨B2, l2, d2, rfl⟩ := sl_formN hw2
     have hx3 := rep_max hw1
     rw [List.length_map] at hx3
     simp only [List.length_map] at hw1 hcs1
     have k0 := hS.cellAt hW0.out hb1 (hcs1 0 _ rfl)
     have k1 := hS.cellAt hW0.out hb1 (hcs1 1 _ rfl)
     simp only [Nat.add_zero, Nat.mul_one, ← Nat.add_assoc] at k0 k1
     rw [hd, greatCas, Cas.great] at hB
     simp only [List.length_cons] at hB
     have hfp := hmem.out _ hpm
     rw [Cas.fds] at hfp
     have hsp := hsz.out _ hpm
     simp only [Cas.mk.sizeOf_spec] at hsp
     have hpw := pWords_len ps 0 (y.put [40])
     have hwl := wLists_len bd ((pWords 0 (y.put [40]) ps).put [41, 10])
     simp only [put_len, List.length_cons, List.length_nil] at hpw hwl
     obtain ⟨v8, hW5, hZ5, hB5⟩ := hS.base (.cells #[.slice B1 ps.length d1, .slice B2 l2 d2] 77)
     have hz := row_new W4 (.cells #[.slice B1 ps.length d1, .slice B2 l2 d2] 77)
     have r0 : IntKind.i64.wrap ((k : Int) + 1) = (k : Int) + 1 := IntWalk.i64_in _ (by omega)
     have HZ : Hid (∀ y' w', Wrt b v8 y' (W4.alloc (.cells #[.slice B1 ps.length d1, .slice B2 l2 d2] 77)) w' → w'.heap[W4.heap.size]? = some (.cells #[.slice B1 ps.length d1, .slice B2 l2 d2] 77 (0, 0)) ∧ HM w' ∧ Rep w' (fun k => k < b) (wordsD ps) [.slice B1 ps.length d1] ∧ Rep w' (fun k => k < b) (.sl 39 2 (Lst.ds bd)) [.slice B2 l2 d2]) :=
      Lib.hid (fun y' w' h' => ⟨h'.rowAt hz hZ5, (HROW.out _ _ (hB5 _ _ h')).2, (hB5 _ _ h').rep hW0.out hw1, (hB5 _ _ h').rep hW0.out hw2⟩)
     have HP8 : Hid (∀ y' s w', Wrt b v8 y' (W4.alloc (.cells #[.slice B1 ps.length d1, .slice B2 l2 d2] 77)) w' → y'.out.length + s.size ≤ 1000000 → Calls Tryz.prog 32 #[.pointer (some ⟨b, 0, none⟩), .slice (some ⟨w'.heap.size, 0, none⟩) 1 1] (w'.alloc (.cells #[.string s] 9)) fun e w'' => e = .returned (.tuple #[]) ∧ Wrt b v8 (y'.put s.data.toList) (W4.alloc (.cells #[.slice B1 ps.length d1, .slice B2 l2 d2] 77)) w'') :=
      Lib.hid (fun y' s w' h' hle => h'.call (fun v6 hw6 => put_lit b v6 _ s w' hw6 hle))
     have HWD : Hid (∀ y' p vw w', Wrt b v8 y' (W4.alloc (.cells #[.slice B1 ps.length d1, .slice B2 l2 d2] 77)) w' → Part.wts p ≤ 20000 → y'.out.length + 8 * Part.wts p ≤ 1000000 → Rep w' (fun k => k < b) (wordD p) [vw] → Calls Tryz.prog 66 #[.pointer (some ⟨b, 0, none⟩), vw] w' fun e w'' => e = .returned (.tuple #[]) ∧ Wrt b v8 (y'.word p) (W4.alloc (.cells #[.slice B1 ps.length d1, .slice B2 l2 d2] 77)) w'') :=
      Lib.hid (fun y' p vw w' h' h1 h2 h3 => h'.call (fun v6 hw6 => wword_calls b v6 _ w' vw p hw6 hb (HZ.out _ _ h').2.1 h1 h2 h3))
     have HLS : Hid (∀ y' w', Wrt b v8 y' (W4.alloc (.cells #[.slice B1 ps.length d1, .slice B2 l2 d2] 77)) w' → y'.out.length + 64 * greatLs bd ≤ 600000 → Calls Tryz.prog 16 #[.pointer (some ⟨b, 0, none⟩), .slice B2 l2 d2] w' fun e w'' => e = .returned (.tuple #[]) ∧ Wrt b v8 (wLists y' bd) (W4.alloc (.cells #[.slice B1 ps.length d1, .slice B2 l2 d2] 77)) w'') :=
      Lib.hid (fun y' w' h' h1 => h'.call (fun v6 hw6 => IH b v6 _ w' _ bd (by omega) hw6 hb (HZ.out _ _ h').2.1 hfp h1 (HZ.out _ _ h').2.2.2))
     have hS5 := Wrt.refl hW5
     have HRWD := Lib.hid (HZ.out _ _ hS5).2.2.1
     have HRP8 : Hid (∀ d cs y' w', Rep (W4.alloc (.cells #[.slice B1 ps.length d1, .slice B2 l2 d2] 77)) (fun k => k < b) d cs → Wrt b v8 y' (W4.alloc (.cells #[.slice B1 ps.length d1, .slice B2 l2 d2] 77)) w' → Rep w' (fun k => k < b) d cs) := Lib.hid (fun d cs y' w' hd h' => h'.rep hW5 hd)
     have HCA8 : Hid (∀ b1 o u y' w', b1 < b → (W4.alloc (.cells #[.slice B1 ps.length d1, .slice B2 l2 d2] 77)).cell? ⟨b1, o, none⟩ = some u → Wrt b v8 y' (W4.alloc (.cells #[.slice B1 ps.length d1, .slice B2 l2 d2] 77)) w' → w'.cell? ⟨b1, o, none⟩ = some u) := Lib.hid (fun b1 o u y' w' hb1 hu h' => h'.cellAt hW5 hb1 hu)
     have hP5 := HP8.out _ ⟨#[40]⟩ _ hS5 (by show _ + 1 ≤ _; omega)
     rw [World.size_alloc] at hP5
     replace hP5 := Lib.hid hP5
     replace hB5 := Lib.hid hB5
     have HK1 : Hid (wCases (wCase y (.mk ps bd)) (ca.drop (k + 1)) = R2) := Lib.hid (by rw [← HK.out, hd, wCases])
     rw [wCase] at HK1
     have hy5 : (y.put [40]).out.length + 64 * greatWords ps ≤ 600000 := by simp only [put_len, List.length_cons, List.length_nil]; omega
     have hB6 : (((wLists ((pWords 0 (y.put [40]) ps).put [41, 10]) bd).put [59, 59, 10])).out.length + 64 * (ca.drop (k + 1)).length + 64 * greatCas (ca.drop (k + 1)) ≤ 600000 := by simp only [put_len, List.length_cons, List.length_nil]; omega
     have hB7 : (pWords 0 (y.put [40]) ps).out.length + 2 + 64 * greatLs bd ≤ 600000 := by omega
     have hB8 : (wLists ((pWords 0 (y.put [40]) ps).put [41, 10]) bd).out.length ≤ 600000 := by omega
     clear hd hpm hr1 hl1' hcs1 hw1 hw2 hB hfp hsp hpw hwl hW5 hZ5 hz hp hS HK hS5
     generalize hQ1 : pWords 0 (y.put [40]) ps = Q1 at *
     have HQ1 := Lib.hid hQ1; clear hQ1
     go_wp2_with fail
     refine Calls.mono hP5.out ?_
     rintro e w5 ⟨rfl, hS6⟩
     clear hP5
     replace hS6 : Wrt b v8 (y.put [40]) (W4.alloc (.cells #[.slice B1 ps.length d1, .slice B2 l2 d2] 77)) w5 := hS6
     generalize y.put [40] = y2 at *
     generalize hWC : (W4.alloc (.cells #[.slice B1 ps.length d1, .slice B2 l2 d2] 77)) = WD at *
     clear hWC
     have z0 := row_cells (HZ.out _ _ hS6).1 0
     simp only [List.getElem?_toArray, List.getElem?_cons_succ, List.getElem?_cons_zero] at z0
     go_upto_block 4 with fail
     go_cut [40] (fun v40 wx => Wrt b v8 Q1 WD wx)
     case first =>
      go_wp2
      go_loopg [40] ps.length (fun rk i wr => ∃ (q : Nat) (y3 : Wr), q + rk = ps.length ∧ i = .int .i64 q ∧ Wrt b v8 y3 WD wr ∧ y3.out.length + 64 * greatWords (ps.drop q) ≤ 600000 ∧ Hid (pWords q y3 (ps.drop q) = Q1))
      case atStart => exact ⟨0, y2, by omega, rfl, hS6, by simpa using hy5, Lib.hid (by simpa using HQ1.out)⟩
      case round =>
       obtain ⟨q, y3, hq, rfl, hS7, hB9, HK7⟩ := hrel
       clear z0 hS6
       generalize wr = W7 at *
       by_cases hlq : q < ps.length
       ·obtain ⟨p, hp⟩ : ∃ p, ps[q]? = some p := ⟨ps[q], List.getElem?_eq_getElem hlq⟩
        have hdq := drop_cons hp
        obtain ⟨b3, o3, c3', cs3, hv3, _, _, hb3, hr3, hl3, hcs3⟩ := sl_get HRWD.out (by omega) q (wordD p) (by rw [List.getElem?_map, hp]; rfl)
        simp only [List.length_map, Value.slice.injEq] at hv3
        obtain ⟨rfl, _, rfl⟩ := hv3
        obtain ⟨vw, rfl, hw1⟩ := rep_sl hr3
        obtain ⟨Aw, nw, cw, rfl⟩ := sl_formN hw1
        have k3 := HCA8.out _ _ _ _ _ hb3 (hcs3 0 _ rfl) hS7
        simp only [Nat.add_zero, Nat.mul_one, ← Nat.add_assoc] at k3
        rw [hdq] at hB9
        simp only [greatWords, List.length_cons, List.map_cons, List.sum_cons] at hB9
        have hrl := word_len (if 0 < q then y3.put [124] else y3) p
        have hy4 : (if 0 < q then y3.put [124] else y3).out.length ≤ y3.out.length + 1 := by split <;> simp [put_len]
        have r1 : IntKind.i64.wrap ((q : Int) + 1) = (q : Int) + 1 := IntWalk.i64_in _ (by omega)
        have HK8 : Hid (pWords (q + 1) ((if 0 < q then y3.put [124] else y3).word p) (ps.drop (q + 1)) = Q1) := Lib.hid (by rw [← HK7.out, hdq, pWords])
        have hB10 : ((if 0 < q then y3.put [124] else y3).word p).out.length + 64 * greatWords (ps.drop (q + 1)) ≤ 600000 := by simp only [greatWords]; omega
        have HW8 : Hid (∀ w', Wrt b v8 (if 0 < q then y3.put [124] else y3) WD w' → Calls Tryz.prog 66 #[.pointer (some ⟨b, 0, none⟩), .slice Aw nw cw] w' fun e w'' => e = .returned (.tuple #[]) ∧ Wrt b v8 ((if 0 < q then y3.put [124] else y3).word p) WD w'') :=
         Lib.hid (fun w' h' => HWD.out _ p _ w' h' (by omega) (by omega) (HRP8.out _ _ _ _ hw1 h'))
        have hP6 := Lib.hid (HP8.out y3 ⟨#[124]⟩ W7 hS7 (by show _ + 1 ≤ _; omega))
        generalize (if 0 < q then y3.put [124] else y3).word p = y9 at *
        clear hdq hr3 hl3 hcs3 hw1 hB9 hrl hy4 hp HK7
        by_cases h0 : 0 < q
        ·have q0 : decide ((0 : Int) < (q : Int)) = true := by simp; omega
         simp only [if_pos h0] at HW8
         go_wp2_with fail
         refine Calls.mono hP6.out ?_
         rintro e w8 ⟨rfl, hS8⟩
         have HW9 := Lib.hid (HW8.out _ hS8)
         clear hP6 HW8 hS8 hS7
         go_wp2_with fail
         refine Calls.mono HW9.out ?_
         rintro e w9 ⟨rfl, hS9⟩
         clear HW9
         go_wp2
         go_roundg (ps.length - (q + 1))
         case measure => omega
         case rel => exact ⟨q + 1, _, by omega, rfl, hS9, hB10, HK8⟩
        ·have q0 : decide ((0 : Int) < (q : Int)) = false := by simp; omega
         simp only [if_neg h0] at HW8
         have HW9 := Lib.hid (HW8.out _ hS7)
         clear hP6 HW8 hS7
         go_wp2_with fail
         refine Calls.mono HW9.out ?_
         rintro e w9 ⟨rfl, hS9⟩
         clear HW9
         go_wp2
         go_roundg (ps.length - (q + 1))
         case measure => omega
         case rel => exact ⟨q + 1, _, by omega, rfl, hS9, hB10, HK8⟩
       ·have hq2 : q = ps.length := by omega
        subst hq2
        have hy : y3 = Q1 := by rw [← HK7.out, List.drop_eq_nil_of_le (Nat.le_refl _)]; rfl
        subst hy
        clear HK7 hB9
        go_wp2
        go_meet
        exact hS7
     case rest =>
      have hS7 := hcut
      clear hcut z0 hS6
      generalize wc = W7 at *
      have hP7 := Lib.hid (HP8.out _ ⟨#[41, 10]⟩ _ hS7 (by show _ + 2 ≤ _; omega))
      clear hS7
      go_wp2_with fail
      refine Calls.mono hP7.out ?_
      rintro e w8 ⟨rfl, hS8⟩
      clear hP7
      replace hS8 : Wrt b v8 (Q1.put [41, 10]) WD w8 := hS8
      have z1 := row_cells (HZ.out _ _ hS8).1 1
      simp only [List.getElem?_toArray, List.getElem?_cons_succ, List.getElem?_cons_zero] at z1
      have hL8 := Lib.hid (HLS.out _ _ hS8 (by simp only [put_len, List.length_cons, List.length_nil]; omega))
      clear hS8
      go_wp2_with fail
      refine Calls.mono hL8.out ?_
      rintro e w9 ⟨rfl, hS9⟩
      clear hL8 z1
      have hP9 := Lib.hid (HP8.out _ ⟨#[59, 59, 10]⟩ _ hS9 (by show _ + 3 ≤ _; omega))
      clear hS9
      go_wp2_with fail
      refine Calls.mono hP9.out ?_
      rintro e w10 ⟨rfl, hS10⟩
      clear hP9
      have hS11 := hB5.out _ _ hS10
      go_wp2
      go_roundg (ca.length - (k + 1))
      case measure => omega
      case rel => exact ⟨k + 1, _, by omega, rfl, hS11, hB6, HK1⟩
    ·have hk2 : k = ca.length := by omega
     subst hk2
     have hy : y = R2 := by rw [← HK.out, List.drop_eq_nil_of_le (Nat.le_refl _), wCases]
     subst hy
     clear HK hB
     go_wp2
     go_meet
     exact hS
  case rest =>
   have hS4 := hcut
   clear hcut hr1c hS3
   generalize wc = W4 at *
   have hP4 := Lib.hid (HPE.out _ ⟨#[101, 115, 97, 99]⟩ _ hS4 (by show _ + 4 ≤ _; omega))
   go_wp2_with fail
   refine Calls.mono hP4.out ?_
   rintro e w5 ⟨rfl, hS5⟩
   clear hP4
   go_wp2
   go_end0
   exact ⟨rfl, by rw [← HRF.out]; exact hL0.out _ _ hS5⟩
def wBody (x : Wr) (k : Int) (n : Bytes) (xs : List Asg) (ws : List (List Part)) (co bo ot : List Lst) (ca : List Cas) (rs : List Rdr) : Wr :=
 if k == 1 then x.simple xs ws rs
 else if k == 2 then (wLists (x.put [123, 10]) bo).put [125]
 else if k == 3 then (wLists (x.put [40, 10]) bo).put [41]
 else if k == 4 then (if 0 < ot.length then wLists ((wLists ((wLists (x.put [105, 102, 10]) co).put [116, 104, 101, 110, 10]) bo).put [101, 108, 115, 101, 10]) ot else wLists ((wLists (x.put [105, 102, 10]) co).put [116, 104, 101, 110, 10]) bo).put [102, 105]
 else if k == 5 then (wLists ((wLists (x.put [119, 104, 105, 108, 101, 10]) co).put [100, 111, 10]) bo).put [100, 111, 110, 101]
 else if k == 6 then (wLists ((wLists (x.put [117, 110, 116, 105, 108, 10]) co).put [100, 111, 10]) bo).put [100, 111, 110, 101]
 else if k == 7 then (wLists (((fWords (x.put ([102, 111, 114, 32] ++ (n ++ [32, 105, 110]))) ws).put [10]).put [100, 111, 10]) bo).put [100, 111, 110, 101]
 else if k == 8 then (wCases ((cWords (x.put [99, 97, 115, 101, 32]) ws).put [32, 105, 110, 10]) ca).put [101, 115, 97, 99]
 else if k == 9 then wLists0 (x.put (n ++ [40, 41, 32])) bo
 else ⟨x.out, true⟩
theorem wCmd_body (x : Wr) (k : Int) (n : Bytes) (xs : List Asg) (ws : List (List Part)) (co bo ot : List Lst) (ca : List Cas) (rs : List Rdr) :
  wCmd x (.mk k n xs ws co bo ot ca rs) = if k == 1 then wBody x k n xs ws co bo ot ca rs else cRedirs (wBody x k n xs ws co bo ot ca rs) rs := by
 rw [wCmd]
 unfold wBody
 cases h : k == 1 <;> simp [h]
theorem sl_formL {w : World} {S : Nat → Prop} {e sz : Nat} {xs : List D} {v : Value} (h : Rep w S (.sl e sz xs) [v]) : ∃ A n c, v = .slice A n c ∧ n = xs.length := by
 obtain ⟨A, c, rfl⟩ := sl_form2 h
 exact ⟨_, _, _, rfl, rfl⟩
theorem put_twoB (b : Nat) (v : Value) (x : Wr) (s t : ByteArray) (w : World) (h : WV b v x w) (hlen : x.out.length + (s.size + t.size) ≤ 1000000) :
  Calls Tryz.prog 32 #[.pointer (some ⟨b, 0, none⟩), .slice (some ⟨w.heap.size, 0, none⟩) 2 2] (w.alloc (.cells #[.string s, .string t] 9)) fun e w' => e = .returned (.tuple #[]) ∧ Wrt b v (x.put (s.data.toList ++ t.data.toList)) w w' := by
 have hP := put_new b v x [s.data.toList, t.data.toList] 2 2 _ w rfl rfl h (by simp only [flat, List.append_nil, List.length_append, len_data]; omega) (by simp)
 rw [show flat [s.data.toList, t.data.toList] = s.data.toList ++ t.data.toList by simp [flat], show (List.map (fun s => Value.string (bstr s)) [s.data.toList, t.data.toList]).toArray = #[.string s, .string t] by simp [bstr_of]] at hP
 exact hP
theorem wBody_len (x : Wr) (k : Int) (n : Bytes) (xs : List Asg) (ws : List (List Part)) (co bo ot : List Lst) (ca : List Cas) (rs : List Rdr) :
  (wBody x k n xs ws co bo ot ca rs).out.length + 32 * (rs.length + (rs.map Rdr.great).sum) ≤ x.out.length + 64 * Cmd.great (.mk k n xs ws co bo ot ca rs) := by
 rw [Cmd.great]
 unfold wBody
 have hco := wLists_len co
 have hbo := wLists_len bo
 have hot := wLists_len ot
 split
 ·have h1 := sWords_len ws (rs.length + xs.length) (sAsgs rs.length (sRedirs 0 x rs) xs)
  have h2 := sAsgs_len xs rs.length (sRedirs 0 x rs)
  have h3 := sRedirs_len rs 0 x
  unfold Wr.simple; omega
 split
 ·have := hbo (x.put [123, 10]); simp only [put_len, List.length_cons, List.length_nil] at this ⊢; omega
 split
 ·have := hbo (x.put [40, 10]); simp only [put_len, List.length_cons, List.length_nil] at this ⊢; omega
 split
 ·have a1 := hco (x.put [105, 102, 10])
  have a2 := hbo ((wLists (x.put [105, 102, 10]) co).put [116, 104, 101, 110, 10])
  have a3 := hot ((wLists ((wLists (x.put [105, 102, 10]) co).put [116, 104, 101, 110, 10]) bo).put [101, 108, 115, 101, 10])
  split
  ·simp only [put_len, List.length_cons, List.length_nil] at a1 a2 a3 ⊢; omega
  ·simp only [put_len, List.length_cons, List.length_nil] at a1 a2 a3 ⊢; omega
 split
 ·have a1 := hco (x.put [119, 104, 105, 108, 101, 10])
  have a2 := hbo ((wLists (x.put [119, 104, 105, 108, 101, 10]) co).put [100, 111, 10])
  simp only [put_len, List.length_cons, List.length_nil] at a1 a2 ⊢; omega
 split
 ·have a1 := hco (x.put [117, 110, 116, 105, 108, 10])
  have a2 := hbo ((wLists (x.put [117, 110, 116, 105, 108, 10]) co).put [100, 111, 10])
  simp only [put_len, List.length_cons, List.length_nil] at a1 a2 ⊢; omega
 split
 ·have a1 := fWords_len ws (x.put ([102, 111, 114, 32] ++ (n ++ [32, 105, 110])))
  have a2 := hbo (((fWords (x.put ([102, 111, 114, 32] ++ (n ++ [32, 105, 110]))) ws).put [10]).put [100, 111, 10])
  simp only [put_len, List.length_cons, List.length_nil, List.length_append] at a1 a2 ⊢; omega
 split
 ·have a1 := cWords_len ws (x.put [99, 97, 115, 101, 32])
  have a2 := wCases_len ca ((cWords (x.put [99, 97, 115, 101, 32]) ws).put [32, 105, 110, 10])
  simp only [put_len, List.length_cons, List.length_nil] at a1 a2 ⊢; omega
 split
 ·have a1 := wLists0_len bo (x.put (n ++ [40, 41, 32]))
  simp only [put_len, List.length_cons, List.length_nil, List.length_append] at a1 ⊢; omega
 ·simp only; omega
set_option maxRecDepth 100000 in
set_option maxHeartbeats 8000000 in
theorem wcmd_step (n : Nat) (IH : WLs n) (IHt : WLt n) : WCm (n + 1) := by
 intro b v x w cs c hn h hb hm hfd hlen hr
 obtain ⟨kd, nm, xs, ws, co, bo, ot, ca, rs⟩ := c
 have hln := wCmd_len (.mk kd nm xs ws co bo ot ca rs) x
 obtain ⟨v1, v2, v3, v4, v5, v6, v7, rfl, hr1, hr2, hr3, hr4, hr5, hr6, hr7⟩ := cmd_rep.1 hr
 rw [Cmd.great] at hlen
 rw [Cmd.fds] at hfd
 obtain ⟨hfr, hfc, hfb, hfo, hfa⟩ := hfd
 simp only [Cmd.mk.sizeOf_spec] at hn
 have hlR : (wBody x kd nm xs ws co bo ot ca rs).out.length + 32 * (rs.length + (rs.map Rdr.great).sum) ≤ 600000 := by
  have := wBody_len x kd nm xs ws co bo ot ca rs
  rw [Cmd.great] at this
  omega
 obtain ⟨A1, l1, c1, rfl⟩ := sl_formN hr1
 obtain ⟨A2, l2, c2, rfl, hl2⟩ := sl_formL hr2
 obtain ⟨A3, l3, c3, rfl⟩ := sl_formN hr3
 obtain ⟨A4, l4, c4, rfl, hl4⟩ := sl_formL hr4
 obtain ⟨A5, l5, c5, rfl, hl5⟩ := sl_formL hr5
 obtain ⟨A6, l6, c6, rfl⟩ := sl_formN hr6
 obtain ⟨A7, l7, c7, rfl, hl7⟩ := sl_formL hr7
 rw [List.length_map] at hl2 hl7
 rw [Lst.ds_map, List.length_map] at hl4 hl5
 replace hl2 := Lib.hid hl2
 replace hl4 := Lib.hid hl4
 replace hl5 := Lib.hid hl5
 replace hl7 := Lib.hid hl7
 obtain ⟨v9, hW0, hX0, hL0⟩ := (Wrt.refl h).base (.cells #[.int .i64 kd, .string (bstr nm), .slice A1 l1 c1, .slice A2 l2 c2, .slice A3 l3 c3, .slice A4 l4 c4, .slice A5 l5 c5, .slice A6 l6 c6, .slice A7 l7 c7] 49)
 have hca : Chg (fun _ => False) w (w.alloc (.cells #[.int .i64 kd, .string (bstr nm), .slice A1 l1 c1, .slice A2 l2 c2, .slice A3 l3 c3, .slice A4 l4 c4, .slice A5 l5 c5, .slice A6 l6 c6, .slice A7 l7 c7] 49)) := (Chg.refl _ w).alloc _
 have hrow := row_new w (.cells #[.int .i64 kd, .string (bstr nm), .slice A1 l1 c1, .slice A2 l2 c2, .slice A3 l3 c3, .slice A4 l4 c4, .slice A5 l5 c5, .slice A6 l6 c6, .slice A7 l7 c7] 49)
 have hS := Wrt.refl hW0
 have R0 := Lib.hid (hr.stay hca (fun _ _ e => e))
 have R3 := Lib.hid (hr3.stay hca (fun _ _ e => e))
 have R4 := Lib.hid (hr4.stay hca (fun _ _ e => e))
 have R5 := Lib.hid (hr5.stay hca (fun _ _ e => e))
 have R2 := Lib.hid (hr2.stay hca (fun _ _ e => e))
 have R7 := Lib.hid (hr7.stay hca (fun _ _ e => e))
 have hm0 := hm.stay hca (fun e => e)
 have hYv : Hid (∀ y w', Wrt b v9 y (w.alloc (.cells #[.int .i64 kd, .string (bstr nm), .slice A1 l1 c1, .slice A2 l2 c2, .slice A3 l3 c3, .slice A4 l4 c4, .slice A5 l5 c5, .slice A6 l6 c6, .slice A7 l7 c7] 49)) w' → Wrt b v y w w') := Lib.hid hL0
 have hcells := row_cells hrow
 generalize hWB : w.alloc (.cells #[.int .i64 kd, .string (bstr nm), .slice A1 l1 c1, .slice A2 l2 c2, .slice A3 l3 c3, .slice A4 l4 c4, .slice A5 l5 c5, .slice A6 l6 c6, .slice A7 l7 c7] 49) = WB at *
 generalize hXX : w.heap.size = X at *
 have HPE : Hid (∀ y' s w', Wrt b v9 y' WB w' → y'.out.length + s.size ≤ 1000000 → Calls Tryz.prog 32 #[.pointer (some ⟨b, 0, none⟩), .slice (some ⟨w'.heap.size, 0, none⟩) 1 1] (w'.alloc (.cells #[.string s] 9)) fun e w'' => e = .returned (.tuple #[]) ∧ Wrt b v9 (y'.put s.data.toList) WB w'') :=
  Lib.hid (fun y' s w' h' hle => h'.call (fun v6 hw6 => put_lit b v6 _ s w' hw6 hle))
 have HLS : Hid (∀ y' ls vl w', SizeOf.sizeOf ls < n → fdLs ls → Wrt b v9 y' WB w' → y'.out.length + 64 * greatLs ls ≤ 600000 → Rep WB (fun k => k < b) (.sl 39 2 (Lst.ds ls)) [vl] → Calls Tryz.prog 16 #[.pointer (some ⟨b, 0, none⟩), vl] w' fun e w'' => e = .returned (.tuple #[]) ∧ Wrt b v9 (wLists y' ls) WB w'') :=
  Lib.hid (fun y' ls vl w' h1 h2 h' h3 h4 => h'.call (fun v6 hw6 => IH b v6 _ w' _ ls h1 hw6 hb (h'.hm hb hW0 hm0) h2 h3 (h'.rep hW0 h4)))
 have HLP : Hid (∀ y' w', Wrt b v9 y' WB w' → y'.out.length + 3 + 64 * greatLs bo ≤ 600000 → Calls Tryz.prog 65 #[.pointer (some ⟨b, 0, none⟩), .slice A4 l4 c4] w' fun e w'' => e = .returned (.tuple #[]) ∧ Wrt b v9 ((wLists (y'.put [100, 111, 10]) bo).put [100, 111, 110, 101]) WB w'') :=
  Lib.hid (fun y' w' h' h3 => h'.call (fun v6 hw6 => wloop_calls n IH b v6 _ w' _ bo (by omega) hw6 hb (h'.hm hb hW0 hm0) hfb h3 (h'.rep hW0 R4.out)))
 have HLT : Hid (∀ y' l cs w' (o : Obj), l ∈ bo → Wrt b v9 y' WB w' → y'.out.length + 64 * l.great ≤ 600000 → Rep WB (fun k => k < b) l.d cs → Calls Tryz.prog 31 #[.pointer (some ⟨b, 0, none⟩), .agg cs.toArray] (w'.alloc o) fun e w'' => e = .returned (.tuple #[]) ∧ Wrt b v9 (wList y' l) WB w'') :=
  Lib.hid (fun y' l cs w' o h1 h' h3 h4 => by
   have hca2 : Chg (fun _ => False) w' (w'.alloc o) := (Chg.refl _ w').alloc o
   have h5 := h'.keep hca2
   exact h5.call (fun v6 hw6 => IHt b v6 _ _ cs l (by have := List.sizeOf_lt_of_mem h1; omega) hw6 hb (h5.hm hb hW0 hm0) (fdLs_mem hfb l h1) h3 (h5.rep hW0 h4)))
 have HWD : Hid (∀ y' p vw w', Wrt b v9 y' WB w' → Part.wts p ≤ 20000 → y'.out.length + 8 * Part.wts p ≤ 1000000 → Rep WB (fun k => k < b) (wordD p) [vw] → Calls Tryz.prog 66 #[.pointer (some ⟨b, 0, none⟩), vw] w' fun e w'' => e = .returned (.tuple #[]) ∧ Wrt b v9 (y'.word p) WB w'') :=
  Lib.hid (fun y' p vw w' h' h1 h2 h3 => h'.call (fun v6 hw6 => wword_calls b v6 _ w' vw p hw6 hb (h'.hm hb hW0 hm0) h1 h2 (h'.rep hW0 h3)))
 have HRD : Hid (∀ y' r cs w', r ∈ rs → Wrt b v9 y' WB w' → r.great ≤ 20000 → y'.out.length + 32 + 8 * r.great ≤ 1000000 → Rep WB (fun k => k < b) r.d cs → Calls Tryz.prog 68 #[.pointer (some ⟨b, 0, none⟩), .agg cs.toArray] w' fun e w'' => e = .returned (.tuple #[]) ∧ Wrt b v9 (y'.redir r) WB w'') :=
  Lib.hid (fun y' r cs w' h1 h' h2 h3 h4 => h'.call (fun v6 hw6 => wredir_calls b v6 _ w' r cs hw6 hb (h'.hm hb hW0 hm0) (by omega) (hfr r h1) (by omega) (h'.rep hW0 h4)))
 have HSM : Hid (kd = 1 → Calls Tryz.prog 64 #[.pointer (some ⟨b, 0, none⟩), .agg #[.int .i64 kd, .string (bstr nm), .slice A1 l1 c1, .slice A2 l2 c2, .slice A3 l3 c3, .slice A4 l4 c4, .slice A5 l5 c5, .slice A6 l6 c6, .slice A7 l7 c7]] WB fun e w'' => e = .returned (.tuple #[]) ∧ Wrt b v9 (x.simple xs ws rs) WB w'') :=
  Lib.hid (fun _ => wsimple_calls b v9 x WB kd nm xs ws co bo ot ca rs _ hW0 hb hm0 (fun r hr => hfr r hr) (by omega) R0.out)
 have HCH : Hid (Calls Tryz.prog 67 #[.pointer (some ⟨b, 0, none⟩), .agg #[.int .i64 kd, .string (bstr nm), .slice A1 l1 c1, .slice A2 l2 c2, .slice A3 l3 c3, .slice A4 l4 c4, .slice A5 l5 c5, .slice A6 l6 c6, .slice A7 l7 c7]] WB fun e w'' => e = .returned (.tuple #[]) ∧ Wrt b v9 ((wCases ((cWords (x.put [99, 97, 115, 101, 32]) ws).put [32, 105, 110, 10]) ca).put [101, 115, 97, 99]) WB w'') :=
  Lib.hid (wchoice_calls n IH b v9 x WB kd nm xs ws co bo ot ca rs _ (by omega) hW0 hb hm0 hfa (by omega) R0.out)
 have HFIN : Hid (wCmd x (.mk kd nm xs ws co bo ot ca rs) = if kd == 1 then wBody x kd nm xs ws co bo ot ca rs else cRedirs (wBody x kd nm xs ws co bo ot ca rs) rs) := Lib.hid (wCmd_body _ _ _ _ _ _ _ _ _ _)
 have HROW : Hid (∀ y w', Wrt b v9 y WB w' → w'.heap[X]? = some (.cells #[.int .i64 kd, .string (bstr nm), .slice A1 l1 c1, .slice A2 l2 c2, .slice A3 l3 c3, .slice A4 l4 c4, .slice A5 l5 c5, .slice A6 l6 c6, .slice A7 l7 c7] 49 (0, 0)) ∧ HM w') :=
  Lib.hid (fun y w' hS => ⟨hS.rowAt hrow hX0, hS.hm hb hW0 hm0⟩)
 clear hr hr1 hr2 hr3 hr4 hr5 hr6 hr7 hX0 hca hrow
 have hk0 := hcells 0
 simp only [List.getElem?_toArray, List.getElem?_cons_succ, List.getElem?_cons_zero] at hk0
 have hlc := wLists_len co
 have hlb := wLists_len bo
 have hlo := wLists_len ot
 replace hfr := Lib.hid hfr
 replace hfa := Lib.hid hfa
 have hW0 := Lib.hid hW0
 go_enter Tryz.func51, Tryz.ntmps51
 go_upto_block 0 with fail
 generalize hYB : wBody x kd nm xs ws co bo ot ca rs = YB at *
 have HYB := Lib.hid hYB; clear hYB
 go_cut [12] (fun v12 wx => Wrt b v9 YB WB wx)
 case first =>
  by_cases k1 : kd = 1
  ·have HS1 := Lib.hid (HSM.out k1)
   subst k1
   clear hS
   have g1 := hcells 1
   have g2 := hcells 2
   have g3 := hcells 3
   have g4 := hcells 4
   have g5 := hcells 5
   have g6 := hcells 6
   have g7 := hcells 7
   have g8 := hcells 8
   simp only [List.getElem?_toArray, List.getElem?_cons_succ, List.getElem?_cons_zero] at g1 g2 g3 g4 g5 g6 g7 g8
   go_wp2_with fail
   refine Calls.mono HS1.out ?_
   rintro e wz ⟨rfl, hS⟩
   go_wp2
   go_meet
   rw [← HYB.out]; exact hS
  by_cases k2 : kd = 2
  ·subst k2
   have e1 := put_len x [123, 10]
   simp only [List.length_cons, List.length_nil] at e1
   have e2 := hlb (x.put [123, 10])
   have hP := Lib.hid (HPE.out _ ⟨#[123, 10]⟩ _ hS (by show _ + 2 ≤ _; omega))
   clear hS
   go_wp2_with fail
   refine Calls.mono hP.out ?_
   clear hP
   rintro e wz ⟨rfl, hS⟩
   replace hS : Wrt b v9 (Wr.put _ [123, 10]) WB wz := hS
   have hcl := row_cells (HROW.out _ _ hS).1 5
   simp only [List.getElem?_toArray, List.getElem?_cons_succ, List.getElem?_cons_zero] at hcl
   have hP := Lib.hid (HLS.out _ bo _ _ (by omega) (by assumption) hS (by omega) (R4).out)
   clear hS
   go_wp2_with fail
   refine Calls.mono hP.out ?_
   clear hP hcl
   rintro e wz ⟨rfl, hS⟩
   have hP := Lib.hid (HPE.out _ ⟨#[125]⟩ _ hS (by show _ + 1 ≤ _; omega))
   clear hS
   go_wp2_with fail
   refine Calls.mono hP.out ?_
   clear hP
   rintro e wz ⟨rfl, hS⟩
   replace hS : Wrt b v9 (Wr.put _ [125]) WB wz := hS
   go_wp2
   go_meet
   rw [← HYB.out]; exact hS
  by_cases k3 : kd = 3
  ·subst k3
   have e1 := put_len x [40, 10]
   simp only [List.length_cons, List.length_nil] at e1
   have e2 := hlb (x.put [40, 10])
   have hP := Lib.hid (HPE.out _ ⟨#[40, 10]⟩ _ hS (by show _ + 2 ≤ _; omega))
   clear hS
   go_wp2_with fail
   refine Calls.mono hP.out ?_
   clear hP
   rintro e wz ⟨rfl, hS⟩
   replace hS : Wrt b v9 (Wr.put _ [40, 10]) WB wz := hS
   have hcl := row_cells (HROW.out _ _ hS).1 5
   simp only [List.getElem?_toArray, List.getElem?_cons_succ, List.getElem?_cons_zero] at hcl
   have hP := Lib.hid (HLS.out _ bo _ _ (by omega) (by assumption) hS (by omega) (R4).out)
   clear hS
   go_wp2_with fail
   refine Calls.mono hP.out ?_
   clear hP hcl
   rintro e wz ⟨rfl, hS⟩
   have hP := Lib.hid (HPE.out _ ⟨#[41]⟩ _ hS (by show _ + 1 ≤ _; omega))
   clear hS
   go_wp2_with fail
   refine Calls.mono hP.out ?_
   clear hP
   rintro e wz ⟨rfl, hS⟩
   replace hS : Wrt b v9 (Wr.put _ [41]) WB wz := hS
   go_wp2
   go_meet
   rw [← HYB.out]; exact hS
  by_cases k4 : kd = 4
  ·subst k4
   have e1 := put_len x [105, 102, 10]
   simp only [List.length_cons, List.length_nil] at e1
   have e2 := hlc (x.put [105, 102, 10])
   have e3 := put_len (wLists (x.put [105, 102, 10]) co) [116, 104, 101, 110, 10]
   simp only [List.length_cons, List.length_nil] at e3
   have e4 := hlb ((wLists (x.put [105, 102, 10]) co).put [116, 104, 101, 110, 10])
   have e5 := put_len (wLists ((wLists (x.put [105, 102, 10]) co).put [116, 104, 101, 110, 10]) bo) [101, 108, 115, 101, 10]
   simp only [List.length_cons, List.length_nil] at e5
   have e6 := hlo ((wLists ((wLists (x.put [105, 102, 10]) co).put [116, 104, 101, 110, 10]) bo).put [101, 108, 115, 101, 10])
   have hP := Lib.hid (HPE.out _ ⟨#[105, 102, 10]⟩ _ hS (by show _ + 3 ≤ _; omega))
   clear hS
   go_wp2_with fail
   refine Calls.mono hP.out ?_
   clear hP
   rintro e wz ⟨rfl, hS⟩
   replace hS : Wrt b v9 (Wr.put _ [105, 102, 10]) WB wz := hS
   have hcl := row_cells (HROW.out _ _ hS).1 4
   simp only [List.getElem?_toArray, List.getElem?_cons_succ, List.getElem?_cons_zero] at hcl
   have hP := Lib.hid (HLS.out _ co _ _ (by omega) (by assumption) hS (by omega) (R3).out)
   clear hS
   go_wp2_with fail
   refine Calls.mono hP.out ?_
   clear hP hcl
   rintro e wz ⟨rfl, hS⟩
   have hP := Lib.hid (HPE.out _ ⟨#[116, 104, 101, 110, 10]⟩ _ hS (by show _ + 5 ≤ _; omega))
   clear hS
   go_wp2_with fail
   refine Calls.mono hP.out ?_
   clear hP
   rintro e wz ⟨rfl, hS⟩
   replace hS : Wrt b v9 (Wr.put _ [116, 104, 101, 110, 10]) WB wz := hS
   have hcl := row_cells (HROW.out _ _ hS).1 5
   simp only [List.getElem?_toArray, List.getElem?_cons_succ, List.getElem?_cons_zero] at hcl
   have hP := Lib.hid (HLS.out _ bo _ _ (by omega) (by assumption) hS (by omega) (R4).out)
   clear hS
   go_wp2_with fail
   refine Calls.mono hP.out ?_
   clear hP hcl
   rintro e wz ⟨rfl, hS⟩
   have hcl := row_cells (HROW.out _ _ hS).1 6
   simp only [List.getElem?_toArray, List.getElem?_cons_succ, List.getElem?_cons_zero] at hcl
   by_cases h0 : 0 < l5
   ·have q0 : decide ((0 : Int) < (l5 : Int)) = true := by simp; omega
    have HY : Hid ((wLists ((wLists ((wLists (x.put [105, 102, 10]) co).put [116, 104, 101, 110, 10]) bo).put [101, 108, 115, 101, 10]) ot).put [102, 105] = YB) := Lib.hid (by
     rw [← HYB.out]
     show _ = (if 0 < ot.length then _ else _ : Wr).put [102, 105]
     rw [if_pos (by rw [← hl5.out]; exact h0)])
    have hP := Lib.hid (HPE.out _ ⟨#[101, 108, 115, 101, 10]⟩ _ hS (by show _ + 5 ≤ _; omega))
    clear hS
    go_wp2_with fail
    refine Calls.mono hP.out ?_
    clear hP
    rintro e wz ⟨rfl, hS⟩
    replace hS : Wrt b v9 (Wr.put _ [101, 108, 115, 101, 10]) WB wz := hS
    clear hcl
    have hcl := row_cells (HROW.out _ _ hS).1 6
    simp only [List.getElem?_toArray, List.getElem?_cons_succ, List.getElem?_cons_zero] at hcl
    have hP := Lib.hid (HLS.out _ ot _ _ (by omega) (by assumption) hS (by omega) (R5).out)
    clear hS
    go_wp2_with fail
    refine Calls.mono hP.out ?_
    clear hP hcl
    rintro e wz ⟨rfl, hS⟩
    have hP := Lib.hid (HPE.out _ ⟨#[102, 105]⟩ _ hS (by show _ + 2 ≤ _; omega))
    clear hS
    go_wp2_with fail
    refine Calls.mono hP.out ?_
    clear hP
    rintro e wz ⟨rfl, hS⟩
    replace hS : Wrt b v9 (Wr.put _ [102, 105]) WB wz := hS
    go_wp2
    go_meet
    rw [← HY.out]; exact hS
   ·have q0 : decide ((0 : Int) < (l5 : Int)) = false := by simp; omega
    have HY : Hid ((wLists ((wLists (x.put [105, 102, 10]) co).put [116, 104, 101, 110, 10]) bo).put [102, 105] = YB) := Lib.hid (by
     rw [← HYB.out]
     show _ = (if 0 < ot.length then _ else _ : Wr).put [102, 105]
     rw [if_neg (by rw [← hl5.out]; exact h0)])
    have hP := Lib.hid (HPE.out _ ⟨#[102, 105]⟩ _ hS (by show _ + 2 ≤ _; omega))
    clear hS
    go_wp2_with fail
    refine Calls.mono hP.out ?_
    clear hP
    rintro e wz ⟨rfl, hS⟩
    replace hS : Wrt b v9 (Wr.put _ [102, 105]) WB wz := hS
    go_wp2
    go_meet
    rw [← HY.out]; exact hS
  by_cases k5 : kd = 5
  ·subst k5
   have e1 := put_len x [119, 104, 105, 108, 101, 10]
   simp only [List.length_cons, List.length_nil] at e1
   have e2 := hlc (x.put [119, 104, 105, 108, 101, 10])
   have hP := Lib.hid (HPE.out _ ⟨#[119, 104, 105, 108, 101, 10]⟩ _ hS (by show _ + 6 ≤ _; omega))
   clear hS
   go_wp2_with fail
   refine Calls.mono hP.out ?_
   clear hP
   rintro e wz ⟨rfl, hS⟩
   replace hS : Wrt b v9 (Wr.put _ [119, 104, 105, 108, 101, 10]) WB wz := hS
   have hcl := row_cells (HROW.out _ _ hS).1 4
   simp only [List.getElem?_toArray, List.getElem?_cons_succ, List.getElem?_cons_zero] at hcl
   have hP := Lib.hid (HLS.out _ co _ _ (by omega) (by assumption) hS (by omega) (R3).out)
   clear hS
   go_wp2_with fail
   refine Calls.mono hP.out ?_
   clear hP hcl
   rintro e wz ⟨rfl, hS⟩
   have hcl := row_cells (HROW.out _ _ hS).1 5
   simp only [List.getElem?_toArray, List.getElem?_cons_succ, List.getElem?_cons_zero] at hcl
   have hP := Lib.hid (HLP.out _ _ hS (by omega))
   clear hS
   go_wp2_with fail
   refine Calls.mono hP.out ?_
   clear hP hcl
   rintro e wz ⟨rfl, hS⟩
   go_wp2
   go_meet
   rw [← HYB.out]; exact hS
  by_cases k6 : kd = 6
  ·subst k6
   have e1 := put_len x [117, 110, 116, 105, 108, 10]
   simp only [List.length_cons, List.length_nil] at e1
   have e2 := hlc (x.put [117, 110, 116, 105, 108, 10])
   have hP := Lib.hid (HPE.out _ ⟨#[117, 110, 116, 105, 108, 10]⟩ _ hS (by show _ + 6 ≤ _; omega))
   clear hS
   go_wp2_with fail
   refine Calls.mono hP.out ?_
   clear hP
   rintro e wz ⟨rfl, hS⟩
   replace hS : Wrt b v9 (Wr.put _ [117, 110, 116, 105, 108, 10]) WB wz := hS
   have hcl := row_cells (HROW.out _ _ hS).1 4
   simp only [List.getElem?_toArray, List.getElem?_cons_succ, List.getElem?_cons_zero] at hcl
   have hP := Lib.hid (HLS.out _ co _ _ (by omega) (by assumption) hS (by omega) (R3).out)
   clear hS
   go_wp2_with fail
   refine Calls.mono hP.out ?_
   clear hP hcl
   rintro e wz ⟨rfl, hS⟩
   have hcl := row_cells (HROW.out _ _ hS).1 5
   simp only [List.getElem?_toArray, List.getElem?_cons_succ, List.getElem?_cons_zero] at hcl
   have hP := Lib.hid (HLP.out _ _ hS (by omega))
   clear hS
   go_wp2_with fail
   refine Calls.mono hP.out ?_
   clear hP hcl
   rintro e wz ⟨rfl, hS⟩
   go_wp2
   go_meet
   rw [← HYB.out]; exact hS
  by_cases k7 : kd = 7
  ·subst k7
   have hl2' := hl2.out
   subst hl2'
   have e0 : (x.put ([102, 111, 114, 32] ++ (nm ++ [32, 105, 110]))).out.length = x.out.length + (nm.length + 7) := by rw [put_len]; simp
   have eF := fWords_len ws (x.put ([102, 111, 114, 32] ++ (nm ++ [32, 105, 110])))
   have HPF : Hid (Calls Tryz.prog 32 #[.pointer (some ⟨b, 0, none⟩), .slice (some ⟨WB.heap.size, 0, none⟩) 3 3] (WB.alloc (.cells #[.string ⟨#[102, 111, 114, 32]⟩, .string (bstr nm), .string ⟨#[32, 105, 110]⟩] 9)) fun e w'' => e = .returned (.tuple #[]) ∧ Wrt b v9 (x.put ([102, 111, 114, 32] ++ (nm ++ [32, 105, 110]))) WB w'') := Lib.hid (by
    have hc := hS.call (fun v6 hw6 => put_three b v6 _ ⟨#[102, 111, 114, 32]⟩ (bstr nm) ⟨#[32, 105, 110]⟩ WB hw6 (by rw [bstr_size]; show _ + (4 + _ + 3) ≤ _; omega))
    rw [bstr_toList] at hc
    exact hc)
   have HY : Hid ((wLists (((fWords (x.put ([102, 111, 114, 32] ++ (nm ++ [32, 105, 110]))) ws).put [10]).put [100, 111, 10]) bo).put [100, 111, 110, 101] = YB) := Lib.hid (by rw [← HYB.out]; rfl)
   have g1 := hcells 1
   simp only [List.getElem?_toArray, List.getElem?_cons_succ, List.getElem?_cons_zero] at g1
   have hB0 : (x.put ([102, 111, 114, 32] ++ (nm ++ [32, 105, 110]))).out.length + 32 * greatWords ws ≤ 600000 := by omega
   have hB1 : (fWords (x.put ([102, 111, 114, 32] ++ (nm ++ [32, 105, 110]))) ws).out.length + 4 + 64 * greatLs bo ≤ 600000 := by omega
   have hx2 : ws.length ≤ 600000 := by have := greatWords_len ws; omega
   clear e0 eF hS hlc hlb hlo HSM HCH HYB
   generalize hR1 : fWords (x.put ([102, 111, 114, 32] ++ (nm ++ [32, 105, 110]))) ws = R1 at *
   have HR1 := Lib.hid hR1; clear hR1
   generalize x.put ([102, 111, 114, 32] ++ (nm ++ [32, 105, 110])) = y0 at *
   go_wp2_with fail
   refine Calls.mono HPF.out ?_
   rintro e w1 ⟨rfl, hS1⟩
   clear HPF g1
   have hcl := row_cells (HROW.out _ _ hS1).1 3
   simp only [List.getElem?_toArray, List.getElem?_cons_succ, List.getElem?_cons_zero] at hcl
   go_upto_block 1 with fail
   go_cut [104] (fun v104 wx => Wrt b v9 R1 WB wx)
   case first =>
    go_wp2
    go_loopg [104] ws.length (fun rk i wr => ∃ (k : Nat) (y : Wr), k + rk = ws.length ∧ i = .int .i64 k ∧ Wrt b v9 y WB wr ∧ y.out.length + 32 * greatWords (ws.drop k) ≤ 600000 ∧ Hid (fWords y (ws.drop k) = R1))
    case atStart => exact ⟨0, y0, by omega, rfl, hS1, by simpa using hB0, Lib.hid (by simpa using HR1.out)⟩
    case round =>
     obtain ⟨k, y, hk, rfl, hS, hB, HK⟩ := hrel
     clear hcl hS1
     generalize wr = W2 at *
     by_cases hlt : k < ws.length
     ·obtain ⟨p, hp⟩ : ∃ p, ws[k]? = some p := ⟨ws[k], List.getElem?_eq_getElem hlt⟩
      have hd := drop_cons hp
      obtain ⟨b1, o1, c', cs1, hv1, _, _, hb1, hr1, hl1', hcs1⟩ := sl_get R2.out (by omega) k (wordD p) (by rw [List.getElem?_map, hp]; rfl)
      simp only [List.length_map, Value.slice.injEq] at hv1
      obtain ⟨rfl, -, rfl⟩ := hv1
      obtain ⟨vw, rfl, hw1⟩ := rep_sl hr1
      obtain ⟨Aw, nw, cw, rfl⟩ := sl_formN hw1
      have k0 := hS.cellAt hW0.out hb1 (hcs1 0 _ rfl)
      simp only [Nat.add_zero, Nat.mul_one, ← Nat.add_assoc] at k0
      rw [hd] at hB
      simp only [greatWords, List.length_cons, List.map_cons, List.sum_cons] at hB
      have hrl := word_len (y.put [32]) p
      have hpl := put_len y [32]
      simp only [List.length_cons, List.length_nil] at hpl
      have r0 : IntKind.i64.wrap ((k : Int) + 1) = (k : Int) + 1 := IntWalk.i64_in _ (by omega)
      have HPP := Lib.hid (HPE.out y ⟨#[32]⟩ W2 hS (by show _ + 1 ≤ _; omega))
      have HW2 : Hid (∀ w', Wrt b v9 (y.put [32]) WB w' → Calls Tryz.prog 66 #[.pointer (some ⟨b, 0, none⟩), .slice Aw nw cw] w' fun e w'' => e = .returned (.tuple #[]) ∧ Wrt b v9 ((y.put [32]).word p) WB w'') := Lib.hid (fun w' h' => HWD.out _ p _ w' h' (by omega) (by omega) hw1)
      have HK1 : Hid (fWords ((y.put [32]).word p) (ws.drop (k + 1)) = R1) := Lib.hid (by rw [← HK.out, hd, fWords])
      have hB2 : ((y.put [32]).word p).out.length + 32 * greatWords (ws.drop (k + 1)) ≤ 600000 := by simp only [greatWords]; omega
      clear hd hr1 hl1' hcs1 hw1 hB hrl hpl hp hS HK
      generalize (y.put [32]).word p = y9 at *
      go_wp2_with fail
      refine Calls.mono HPP.out ?_
      rintro e w3 ⟨rfl, hS3⟩
      have HW3 := Lib.hid (HW2.out _ hS3)
      clear HPP HW2 hS3
      go_wp2_with fail
      refine Calls.mono HW3.out ?_
      rintro e w4 ⟨rfl, hS4⟩
      clear HW3
      go_wp2
      go_roundg (ws.length - (k + 1))
      case measure => omega
      case rel => exact ⟨k + 1, _, by omega, rfl, hS4, hB2, HK1⟩
     ·have hk2 : k = ws.length := by omega
      subst hk2
      have hy : y = R1 := by rw [← HK.out, List.drop_eq_nil_of_le (Nat.le_refl _)]; rfl
      subst hy
      clear HK hB
      go_wp2
      go_meet
      exact hS
   case rest =>
    have hS := hcut
    clear hcut hcl hS1
    generalize wc = W2 at *
    have e9 := put_len R1 [10]
    simp only [List.length_cons, List.length_nil] at e9
    have hP := Lib.hid (HPE.out _ ⟨#[10]⟩ _ hS (by show _ + 1 ≤ _; omega))
    clear hS
    go_wp2_with fail
    refine Calls.mono hP.out ?_
    clear hP
    rintro e wz ⟨rfl, hS⟩
    replace hS : Wrt b v9 (Wr.put _ [10]) WB wz := hS
    have hcl := row_cells (HROW.out _ _ hS).1 5
    simp only [List.getElem?_toArray, List.getElem?_cons_succ, List.getElem?_cons_zero] at hcl
    have hP := Lib.hid (HLP.out _ _ hS (by omega))
    clear hS
    go_wp2_with fail
    refine Calls.mono hP.out ?_
    clear hP hcl
    rintro e wz ⟨rfl, hS⟩
    go_wp2
    go_meet
    rw [← HY.out]; exact hS
  by_cases k8 : kd = 8
  ·subst k8
   clear hS
   have g1 := hcells 1
   have g2 := hcells 2
   have g3 := hcells 3
   have g4 := hcells 4
   have g5 := hcells 5
   have g6 := hcells 6
   have g7 := hcells 7
   have g8 := hcells 8
   simp only [List.getElem?_toArray, List.getElem?_cons_succ, List.getElem?_cons_zero] at g1 g2 g3 g4 g5 g6 g7 g8
   go_wp2_with fail
   refine Calls.mono HCH.out ?_
   rintro e wz ⟨rfl, hS⟩
   go_wp2
   go_meet
   rw [← HYB.out]; exact hS
  by_cases k9 : kd = 9
  ·subst k9
   have hl4' := hl4.out
   subst hl4'
   have e0 : (x.put (nm ++ [40, 41, 32])).out.length = x.out.length + (nm.length + 3) := by rw [put_len]; simp
   have HPF : Hid (Calls Tryz.prog 32 #[.pointer (some ⟨b, 0, none⟩), .slice (some ⟨WB.heap.size, 0, none⟩) 2 2] (WB.alloc (.cells #[.string (bstr nm), .string ⟨#[40, 41, 32]⟩] 9)) fun e w'' => e = .returned (.tuple #[]) ∧ Wrt b v9 (x.put (nm ++ [40, 41, 32])) WB w'') := Lib.hid (by
    have hc := hS.call (fun v6 hw6 => put_twoB b v6 _ (bstr nm) ⟨#[40, 41, 32]⟩ WB hw6 (by rw [bstr_size]; show _ + (_ + 3) ≤ _; omega))
    rw [bstr_toList] at hc
    exact hc)
   have HY : Hid (wLists0 (x.put (nm ++ [40, 41, 32])) bo = YB) := Lib.hid (by rw [← HYB.out]; rfl)
   have g1 := hcells 1
   simp only [List.getElem?_toArray, List.getElem?_cons_succ, List.getElem?_cons_zero] at g1
   have hB0 : (x.put (nm ++ [40, 41, 32])).out.length + 64 * greatLs bo ≤ 600000 := by omega
   have R4' := Lib.hid (by have h := R4.out; rw [Lst.ds_map] at h; exact h)
   have hx4 := rep_max R4'.out
   rw [List.length_map] at hx4
   clear e0 hS hlc hlb hlo HSM HCH HYB
   generalize x.put (nm ++ [40, 41, 32]) = y0 at *
   go_wp2_with fail
   refine Calls.mono HPF.out ?_
   rintro e w1 ⟨rfl, hS1⟩
   clear HPF g1
   have hcl := row_cells (HROW.out _ _ hS1).1 5
   simp only [List.getElem?_toArray, List.getElem?_cons_succ, List.getElem?_cons_zero] at hcl
   go_wp2
   go_loopg [137] bo.length (fun rk i wr => ∃ (k : Nat) (y : Wr), k + rk = bo.length ∧ i = .int .i64 k ∧ Wrt b v9 y WB wr ∧ y.out.length + 64 * greatLs (bo.drop k) ≤ 600000 ∧ Hid (wLists0 y (bo.drop k) = YB))
   case atStart => exact ⟨0, y0, by omega, rfl, hS1, by simpa using hB0, Lib.hid (by simpa using HY.out)⟩
   case round =>
    obtain ⟨k, y, hk, rfl, hS, hB, HK⟩ := hrel
    clear hcl hS1
    generalize wr = W2 at *
    by_cases hlt : k < bo.length
    ·obtain ⟨p, hp⟩ : ∃ p, bo[k]? = some p := ⟨bo[k], List.getElem?_eq_getElem hlt⟩
     have hd := drop_cons hp
     have hpm := List.mem_of_getElem? hp
     obtain ⟨b1, o1, c', cs1, hv1, _, _, hb1, hr1, hl1', hcs1⟩ := sl_get R4'.out (by omega) k (Lst.d p) (by rw [List.getElem?_map, hp]; rfl)
     simp only [List.length_map, Value.slice.injEq] at hv1
     obtain ⟨rfl, -, rfl⟩ := hv1
     obtain ⟨Aw, nw, cw, A8, n8, c8, rfl⟩ := lst_form hr1
     have k0 := hS.cellAt hW0.out hb1 (hcs1 0 _ rfl)
     have k1 := hS.cellAt hW0.out hb1 (hcs1 1 _ rfl)
     simp only [Nat.add_zero, ← Nat.add_assoc] at k0 k1
     rw [hd, greatLs] at hB
     have hwl := wList_len p y
     have r0 : IntKind.i64.wrap ((k : Int) + 1) = (k : Int) + 1 := IntWalk.i64_in _ (by omega)
     have HL := Lib.hid (HLT.out y p _ W2 (.cells #[.slice Aw nw cw, .slice A8 n8 c8] 39) hpm hS (by omega) hr1)
     have HK1 : Hid (wLists0 (wList y p) (bo.drop (k + 1)) = YB) := Lib.hid (by rw [← HK.out, hd, wLists0])
     have hB1 : (wList y p).out.length + 64 * greatLs (bo.drop (k + 1)) ≤ 600000 := by omega
     clear hd hpm hr1 hl1' hcs1 hB hwl hp hS HK
     generalize wList y p = y8 at *
     go_wp2_with fail
     refine Calls.mono HL.out ?_
     rintro e w3 ⟨rfl, hS3⟩
     clear HL
     go_wp2
     go_roundg (bo.length - (k + 1))
     case measure => omega
     case rel => exact ⟨k + 1, _, by omega, rfl, hS3, hB1, HK1⟩
    ·have hk2 : k = bo.length := by omega
     subst hk2
     have hy : y = YB := by rw [← HK.out, List.drop_eq_nil_of_le (Nat.le_refl _), wLists0]
     clear HK hB
     go_wp2
     go_meet
     rw [← hy]; exact hS
  have q1 : (kd == 1) = false := by simpa using k1
  have q2 : (kd == 2) = false := by simpa using k2
  have q3 : (kd == 3) = false := by simpa using k3
  have q4 : (kd == 4) = false := by simpa using k4
  have q5 : (kd == 5) = false := by simpa using k5
  have q6 : (kd == 6) = false := by simpa using k6
  have q7 : (kd == 7) = false := by simpa using k7
  have q8 : (kd == 8) = false := by simpa using k8
  have q9 : (kd == 9) = false := by simpa using k9
  have hSB := hS.setBad true
  obtain ⟨hcb, hfb2⟩ := hS.bads
  have HY : Hid (⟨x.out, true⟩ = YB) := Lib.hid (by rw [← HYB.out, wBody]; simp only [q1, q2, q3, q4, q5, q6, q7, q8, q9]; rfl)
  clear k1 k2 k3 k4 k5 k6 k7 k8 k9 hS
  go_wp2
  go_meet
  rw [← HY.out]; exact hSB
 case rest =>
  have hS := hcut
  clear hcut hcells hk0 HPE HLS HLP HLT HWD HSM HCH R0 R2 R3 R4 R5 hl2 hl4 hl5 hlc hlb hlo
  have hl7' := hl7.out
  subst hl7'
  have hx7 := rep_max R7.out
  rw [List.length_map] at hx7
  generalize wc = W1 at *
  have hcl := row_cells (HROW.out _ _ hS).1 8
  simp only [List.getElem?_toArray, List.getElem?_cons_succ, List.getElem?_cons_zero] at hcl
  by_cases k1 : kd = 1
  ·have HR : Hid (wCmd x (.mk kd nm xs ws co bo ot ca rs) = YB) := Lib.hid (by rw [HFIN.out, k1]; rfl)
   subst k1
   clear HFIN
   go_wp2
   go_loopg [148] rs.length (fun rk i wr => ∃ (k : Nat), k + rk = rs.length ∧ i = .int .i64 k ∧ Wrt b v9 YB WB wr)
   case atStart => exact ⟨0, by omega, rfl, hS⟩
   case round =>
    obtain ⟨k, hk, rfl, hS2⟩ := hrel
    clear hcl hS
    generalize wr = W2 at *
    by_cases hlt : k < rs.length
    ·obtain ⟨p, hp⟩ : ∃ p, rs[k]? = some p := ⟨rs[k], List.getElem?_eq_getElem hlt⟩
     obtain ⟨b1, o1, c', cs1, hv1, _, _, hb1, hr1, hl1', hcs1⟩ := sl_get R7.out (by omega) k (Rdr.d p) (by rw [List.getElem?_map, hp]; rfl)
     simp only [List.length_map, Value.slice.injEq] at hv1
     obtain ⟨rfl, -, rfl⟩ := hv1
     obtain ⟨fd, ob, Aw, nw, cw, rfl⟩ := rdr_form hr1
     have j0 := hS2.cellAt hW0.out hb1 (hcs1 0 _ rfl)
     have j1 := hS2.cellAt hW0.out hb1 (hcs1 1 _ rfl)
     have j2 := hS2.cellAt hW0.out hb1 (hcs1 2 _ rfl)
     simp only [Nat.add_zero, ← Nat.add_assoc] at j0 j1 j2
     have z0 := row_cells (row_alloc (HROW.out _ _ hS2).1 (.cells #[.int .i64 fd, .string ob, .slice Aw nw cw] 75)) 0
     simp only [List.getElem?_toArray, List.getElem?_cons_succ, List.getElem?_cons_zero] at z0
     have r0 : IntKind.i64.wrap ((k : Int) + 1) = (k : Int) + 1 := IntWalk.i64_in _ (by omega)
     have hS3 := hS2.keep ((Chg.refl (fun _ => False) W2).alloc (.cells #[.int .i64 fd, .string ob, .slice Aw nw cw] 75))
     clear hr1 hl1' hcs1 hp hS2
     go_wp2
     go_roundg (rs.length - (k + 1))
     case measure => omega
     case rel => exact ⟨k + 1, by omega, rfl, hS3⟩
    ·have hk2 : k = rs.length := by omega
     subst hk2
     have hS3 := hYv.out _ _ hS2
     go_wp2
     go_end0
     exact ⟨rfl, by rw [HR.out]; exact hS3⟩
  ·have q1 : (kd == 1) = false := by simpa using k1
   have q2 : (kd != 1) = true := by simpa using k1
   have HR : Hid (cRedirs YB rs = wCmd x (.mk kd nm xs ws co bo ot ca rs)) := Lib.hid (by rw [HFIN.out, q1]; rfl)
   clear HFIN k1
   generalize hRZ : wCmd x (.mk kd nm xs ws co bo ot ca rs) = RZ at *
   have HRZ := Lib.hid hRZ; clear hRZ
   go_wp2
   go_loopg [148] rs.length (fun rk i wr => ∃ (k : Nat) (y : Wr), k + rk = rs.length ∧ i = .int .i64 k ∧ Wrt b v9 y WB wr ∧ y.out.length + 32 * ((rs.drop k).length + ((rs.drop k).map Rdr.great).sum) ≤ 600000 ∧ Hid (cRedirs y (rs.drop k) = RZ))
   case atStart => exact ⟨0, YB, by omega, rfl, hS, by simpa using hlR, Lib.hid (by simpa using HR.out)⟩
   case round =>
    obtain ⟨k, y, hk, rfl, hS2, hB, HK⟩ := hrel
    clear hcl hS
    generalize wr = W2 at *
    by_cases hlt : k < rs.length
    ·obtain ⟨p, hp⟩ : ∃ p, rs[k]? = some p := ⟨rs[k], List.getElem?_eq_getElem hlt⟩
     have hd := drop_cons hp
     have hpm := List.mem_of_getElem? hp
     obtain ⟨b1, o1, c', cs1, hv1, _, _, hb1, hr1, hl1', hcs1⟩ := sl_get R7.out (by omega) k (Rdr.d p) (by rw [List.getElem?_map, hp]; rfl)
     simp only [List.length_map, Value.slice.injEq] at hv1
     obtain ⟨rfl, -, rfl⟩ := hv1
     obtain ⟨fd, ob, Aw, nw, cw, rfl⟩ := rdr_form hr1
     have j0 := hS2.cellAt hW0.out hb1 (hcs1 0 _ rfl)
     have j1 := hS2.cellAt hW0.out hb1 (hcs1 1 _ rfl)
     have j2 := hS2.cellAt hW0.out hb1 (hcs1 2 _ rfl)
     simp only [Nat.add_zero, ← Nat.add_assoc] at j0 j1 j2
     rw [hd] at hB
     simp only [List.length_cons, List.map_cons, List.sum_cons] at hB
     have hpl := put_len y [32]
     simp only [List.length_cons, List.length_nil] at hpl
     have hrl := redir_len (y.put [32]) p
     have z0 := row_cells (row_alloc (HROW.out _ _ hS2).1 (.cells #[.int .i64 fd, .string ob, .slice Aw nw cw] 75)) 0
     simp only [List.getElem?_toArray, List.getElem?_cons_succ, List.getElem?_cons_zero] at z0
     have r0 : IntKind.i64.wrap ((k : Int) + 1) = (k : Int) + 1 := IntWalk.i64_in _ (by omega)
     obtain ⟨v8, hW5, hZ5, hB5⟩ := hS2.base (.cells #[.int .i64 fd, .string ob, .slice Aw nw cw] 75)
     have hz := row_new W2 (.cells #[.int .i64 fd, .string ob, .slice Aw nw cw] 75)
     have HP5 := put_lit b v8 y ⟨#[32]⟩ _ hW5 (by show _ + 1 ≤ _; omega)
     rw [World.size_alloc] at HP5
     replace HP5 := Lib.hid HP5
     have HRR : Hid (∀ w', Wrt b v8 (y.put [32]) (W2.alloc (.cells #[.int .i64 fd, .string ob, .slice Aw nw cw] 75)) w' → w'.heap[W2.heap.size]? = some (.cells #[.int .i64 fd, .string ob, .slice Aw nw cw] 75 (0, 0)) ∧ Calls Tryz.prog 68 #[.pointer (some ⟨b, 0, none⟩), .agg #[.int .i64 fd, .string ob, .slice Aw nw cw]] w' fun e w'' => e = .returned (.tuple #[]) ∧ Wrt b v9 ((y.put [32]).redir p) WB w'') :=
      Lib.hid (fun w' h' => ⟨h'.rowAt hz hZ5, HRD.out _ p _ w' hpm (hB5 _ _ h') (by omega) (by omega) hr1⟩)
     have HK1 : Hid (cRedirs ((y.put [32]).redir p) (rs.drop (k + 1)) = RZ) := Lib.hid (by rw [← HK.out, hd, cRedirs])
     have hB1 : ((y.put [32]).redir p).out.length + 32 * ((rs.drop (k + 1)).length + ((rs.drop (k + 1)).map Rdr.great).sum) ≤ 600000 := by omega
     clear hd hpm hr1 hl1' hcs1 hB hpl hrl hp hS2 HK hW5 hZ5 hB5 hz
     generalize (y.put [32]).redir p = y9 at *
     go_wp2_with fail
     refine Calls.mono HP5.out ?_
     rintro e w3 ⟨rfl, hS3⟩
     obtain ⟨m1, HC⟩ := HRR.out _ hS3
     have z1 := row_cells m1 0
     have z2 := row_cells m1 1
     have z3 := row_cells m1 2
     simp only [List.getElem?_toArray, List.getElem?_cons_succ, List.getElem?_cons_zero] at z1 z2 z3
     replace HC := Lib.hid HC
     clear HP5 HRR m1 hS3
     go_wp2_with fail
     refine Calls.mono HC.out ?_
     rintro e w4 ⟨rfl, hS4⟩
     clear HC
     go_wp2
     go_roundg (rs.length - (k + 1))
     case measure => omega
     case rel => exact ⟨k + 1, _, by omega, rfl, hS4, hB1, HK1⟩
    ·have hk2 : k = rs.length := by omega
     subst hk2
     have hy : y = RZ := by rw [← HK.out, List.drop_eq_nil_of_le (Nat.le_refl _)]; rfl
     have hS3 := hYv.out _ _ hS2
     clear HK hB
     go_wp2
     go_end0
     exact ⟨rfl, by rw [HRZ.out, ← hy]; exact hS3⟩
end Go.Proofs.YtdfnkmiabmjolaaGreatDoor
namespace Go.Proofs.YtdfnkmiabmjolaaGreatDoor
def LeX {α : Type} (n : Nat) (X : Rs α) : Prop := ∀ v r', X = .ok v r' → r'.length ≤ n
def Le {α : Type} (F : Bytes → Rs α) : Prop := ∀ r, LeX r.length (F r)
theorem le_bind {α β : Type} {n m : Nat} {X : Rs α} {f : α → Bytes → Rs β} (h : LeX m X) (hf : ∀ a r, X = .ok a r → r.length ≤ m → LeX n (f a r)) : LeX n (X.bind f) := by
 intro v r' e
 cases X with
 | err l c => simp [Rs.bind] at e
 | ok a r => exact hf a r rfl (h a r rfl) v r' (by simpa [Rs.bind] using e)
theorem le_ok {α : Type} {n : Nat} {v : α} {r : Bytes} (h : r.length ≤ n) : LeX n (.ok v r : Rs α) := by
 intro v' r' e
 simp only [Rs.ok.injEq] at e
 exact e.2 ▸ h
theorem le_fail {α : Type} (n : Nat) (r : Bytes) (e : Int) : LeX n (failS r e : Rs α) := by
 intro v r' h
 unfold failS failP at h
 split at h <;> simp at h
theorem le_err {α : Type} (n l : Nat) (c : Int) : LeX n (.err l c : Rs α) := by intro v r' h; simp at h
theorem le_ite {α : Type} {n : Nat} {P : Prop} [Decidable P] {X Y : Rs α} (h1 : P → LeX n X) (h2 : ¬ P → LeX n Y) : LeX n (if P then X else Y) := by
 split
 ·rename_i h; exact h1 h
 ·rename_i h; exact h2 h
theorem le_up {α : Type} {n m : Nat} {X : Rs α} (h : LeX n X) (hm : n ≤ m) : LeX m X := fun v r' e => Nat.le_trans (h v r' e) hm
theorem linesF_le : ∀ (n : Nat) (r : Bytes), (linesF n r).length ≤ r.length
 | 0, r => by rw [linesF]; exact Nat.le_refl _
 | n + 1, r => by
  have hl := blanks_le r
  rw [linesF]
  cases hb : blanks r with
  | nil => simp
  | cons c u =>
   rw [hb] at hl
   dsimp only
   split
   ·exact Nat.le_trans (linesF_le n u) (by simp at hl; omega)
   ·exact hl
theorem lines_le (r : Bytes) : (lines r).length ≤ r.length := linesF_le _ _
theorem lines_lt {r : Bytes} (h : sgn r = [10]) : (lines r).length < r.length := by
 have hl := blanks_le r
 unfold sgn at h
 unfold lines
 rw [linesF]
 cases hb : blanks r with
 | nil => rw [hb] at h; simp [signs, opL] at h
 | cons c u =>
  rw [hb] at h hl
  have hc : c = 10 := by
   have hp : [10].isPrefixOf (c :: u) = true := by
    have key : ∀ os : List Bytes, opL os (c :: u) = [10] → [10].isPrefixOf (c :: u) = true := by
     intro os
     induction os with
     | nil => intro h; simp [opL] at h
     | cons o os ih =>
      intro h
      simp only [opL] at h
      split at h
      ·rename_i h2; rw [h] at h2; exact h2
      ·exact ih h
    exact key _ h
   simp at hp
   exact hp.symm
  subst hc
  simp only [BEq.rfl, if_true]
  exact Nat.lt_of_le_of_lt (linesF_le _ u) (by simp at hl; omega)
theorem peek_lt {r : Bytes} (h : (peek r).1 ≠ []) : (peek r).2.length < (blanks r).length := by
 unfold peek at h ⊢
 cases hs : scan (blanks r) with
 | err a e => rw [hs] at h; simp at h
 | ok l r' =>
  rw [hs] at h
  have hl := (scan_ok _ _ _ hs).2
  match l, h with
  | [], h => simp at h
  | [.mk k q t o w], h =>
   dsimp only at h ⊢
   split at h
   ·rename_i hc
    rw [if_pos hc]
    simp only [Part.wts, Part.wt] at hl
    dsimp only
    omega
   ·simp at h
  | a :: b :: l, h => simp at h
theorem peek_lt2 {r : Bytes} {s : Bytes} (hs : s ≠ []) (h : ((peek r).1 == s) = true) : (peek r).2.length < r.length := by
 have h1 : (peek r).1 = s := by simpa using h
 have := peek_lt (r := r) (by rw [h1]; exact hs)
 have := blanks_le r
 omega
theorem le_must (s : Bytes) (hs : s ≠ []) (r : Bytes) : LeX (r.length - 1) (mustP s r) :=
 le_ite (fun h => le_ok (by have := peek_lt2 hs h; omega)) (fun _ => le_fail _ _ _)
theorem sgn_len {r s : Bytes} (h : (sgn r == s) = true) : s.length ≤ (blanks r).length := by
 have hs : sgn r = s := by simpa using h
 have := sgn_le r
 rwa [hs] at this
theorem le_want (s r : Bytes) (hs : s ≠ []) : LeX (r.length - 1) (wantP s r) :=
 le_ite (fun h => le_ok (by
  have h1 := sgn_len h
  have h2 := blanks_le r
  have h3 : s.length ≠ 0 := fun e => hs (List.eq_nil_of_length_eq_zero e)
  simp; omega)) (fun _ => le_fail _ _ _)
theorem take_le (s r : Bytes) : (takeR s r).length ≤ r.length := by
 have := blanks_le r
 unfold takeR
 split
 ·simp; omega
 ·exact this
theorem fd_le (b : Bytes) : (fdP b).2.length ≤ b.length := by
 unfold fdP
 split
 ·split
  ·simp
  ·exact Nat.le_refl _
 ·exact Nat.le_refl _
def Lt {α : Type} (F : Bytes → Rs α) : Prop := ∀ r, LeX (r.length - 1) (F r) ∧ ∀ v r', F r = .ok v r' → 1 ≤ r.length
theorem Lt.le {α : Type} {F : Bytes → Rs α} (h : Lt F) : Le F := fun r => le_up (h r).1 (Nat.sub_le _ _)
theorem Lt.lt {α : Type} {F : Bytes → Rs α} (h : Lt F) {r : Bytes} {v : α} {r' : Bytes} (e : F r = .ok v r') : r'.length < r.length := by
 have h1 := (h r).1 v r' e
 have h2 := (h r).2 v r' e
 omega
theorem lt_of {α : Type} {F : Bytes → Rs α} (h : ∀ r v r', F r = .ok v r' → r'.length < r.length) : Lt F := fun r => ⟨fun v r' e => by have := h r v r' e; omega, fun v r' e => by have := h r v r' e; omega⟩
theorem lt_word (pe : Bytes → Int) : Lt (wordP pe) := lt_of (fun r v r' e => by
 have hb := blanks_le r
 unfold wordP at e
 cases hs : scan (blanks r) with
 | err a c =>
  rw [hs] at e
  unfold failP at e
  dsimp only at e
  split at e <;> simp at e
 | ok l r1 =>
  rw [hs] at e
  have hl := (scan_ok _ _ _ hs).2
  dsimp only at e
  split at e
  ·unfold failS failP at e; split at e <;> simp at e
  ·rename_i h1
   split at e
   ·unfold failS failP at e; split at e <;> simp at e
   ·simp only [Rs.ok.injEq] at e
    obtain ⟨_, rfl⟩ := e
    cases l with
    | nil =>
     simp only [List.isEmpty_nil, Bool.true_and, beq_iff_eq] at h1
     simp only [Part.wts] at hl
     omega
    | cons p l =>
     obtain ⟨k, q, t, o, w⟩ := p
     simp only [Part.wts, Part.wt] at hl
     omega)
section
variable {wd : Bytes → Rs (List Part)} {fn : Bytes → Bytes → Rs Cmd} {ls : Bytes → Rs (List Lst)} {lsd : Nat → Bytes → Rs (List Lst)} {br : Bytes → Rs Cmd} {comp : Bytes → Rs (Option Cmd)} {cmd : Bytes → Rs Cmd} {pipe : Bytes → Rs Pip} {list : Bytes → Rs Lst}
theorem redir_lt (hw : Lt wd) {r r' : Bytes} {x : Rdr} (e : redirP wd r = .ok (some x) r') : r'.length < r.length := by
 have hb := blanks_le r
 have hf := fd_le (blanks r)
 have hb2 := blanks_le (fdP (blanks r)).2
 unfold redirP at e
 dsimp only at e
 have key : ∀ (f : List Part → Rdr), ((wd ((blanks (fdP (blanks r)).2).drop (sgn (fdP (blanks r)).2).length)).bind fun w r' => .ok (some (f w)) r') = .ok (some x) r' → r'.length < r.length := by
  intro f e
  cases hq : wd ((blanks (fdP (blanks r)).2).drop (sgn (fdP (blanks r)).2).length) with
  | err a c => rw [hq] at e; simp [Rs.bind] at e
  | ok w r1 =>
   have := hw.lt hq
   rw [hq] at e
   simp only [Rs.bind, Rs.ok.injEq] at e
   rw [← e.2]
   simp at this; omega
 split at e
 ·exact key _ e
 ·split at e
  ·exact key _ e
  ·simp at e
theorem redir_le {r r' : Bytes} {o : Option Rdr} (hw : Lt wd) (e : redirP wd r = .ok o r') : r'.length ≤ r.length := by
 cases o with
 | some x => exact Nat.le_of_lt (redir_lt hw e)
 | none =>
  unfold redirP at e
  dsimp only at e
  have key : ∀ (f : List Part → Rdr) q, ((wd q).bind fun w r' => .ok (some (f w)) r') = .ok none r' → False := by
   intro f q e
   cases hq : wd q with
   | err a c => rw [hq] at e; simp [Rs.bind] at e
   | ok w r1 => rw [hq] at e; simp [Rs.bind] at e
  split at e
  ·exact absurd e (key _ _)
  ·split at e
   ·exact absurd e (key _ _)
   ·simp only [Rs.ok.injEq, true_and] at e
    exact e ▸ blanks_le r
theorem redir_none {r r' : Bytes} (e : redirP wd r = .ok none r') : r' = blanks r := by
 unfold redirP at e
 dsimp only at e
 have key : ∀ (f : List Part → Rdr) q, ((wd q).bind fun w r' => .ok (some (f w)) r') = .ok none r' → False := by
  intro f q e
  cases hq : wd q with
  | err a c => rw [hq] at e; simp [Rs.bind] at e
  | ok w r1 => rw [hq] at e; simp [Rs.bind] at e
 split at e
 ·exact absurd e (key _ _)
 ·split at e
  ·exact absurd e (key _ _)
  ·simp only [Rs.ok.injEq, true_and] at e
   exact e.symm
theorem le_redir (hw : Lt wd) : Le (redirP wd) := fun r o r' e => redir_le hw e
theorem le_redirs (hw : Lt wd) : ∀ (n : Nat) (rs : List Rdr), Le (redirsF wd n rs)
 | 0, _ => fun r => le_err _ _ _
 | n + 1, rs => fun r => by
  rw [redirsF]
  refine le_bind (le_redir hw r) (fun o r' _ h => ?_)
  cases o with
  | none => exact le_ok h
  | some y => exact le_up (le_redirs hw n _ r') h
theorem le_simple (hw : Lt wd) (hf : ∀ n, Le (fn n)) : ∀ (n : Nat) (xs : List Asg) (ws : List (List Part)) (rs : List Rdr), Le (simpleF wd fn n xs ws rs)
 | 0, _, _, _ => fun r => le_err _ _ _
 | n + 1, xs, ws, rs => fun r => by
  rw [simpleF]
  refine le_bind (le_redir hw r) (fun o b _ h => ?_)
  have hb := blanks_le b
  cases o with
  | some y => exact le_up (le_simple hw hf n _ _ _ b) h
  | none =>
   refine le_ite (fun _ => le_fail _ _ _) (fun _ => le_ite (fun _ => le_ite (fun _ => le_fail _ _ _) (fun _ => le_ok (by omega))) (fun _ => le_ite (fun hc => ?_) (fun _ => ?_)))
   ·simp only [Bool.and_eq_true] at hc
    have hne : (peek b).1 ≠ [] := by
     intro e; rw [e] at hc; simp [nameB] at hc
    have := peek_lt hne
    exact le_up (hf _ _) (by simp; omega)
   ·refine le_bind (hw.le _) (fun l b' _ h2 => ?_)
    cases assigned l with
    | none => exact le_up (le_simple hw hf n _ _ _ b') (by omega)
    | some a =>
     cases ws.isEmpty with
     | true => exact le_up (le_simple hw hf n _ _ _ b') (by omega)
     | false => exact le_up (le_simple hw hf n _ _ _ b') (by omega)
theorem le_loop (hl : Le ls) : Le (loopP ls) := fun r => le_bind (le_must _ (by simp) _) (fun _ r1 _ h1 => le_bind (hl _) (fun _ r2 _ h2 => le_bind (le_must _ (by simp) _) (fun _ r3 _ h3 => le_ok (by omega))))
theorem le_words (hw : Lt wd) : ∀ (n : Nat) (ws : List (List Part)), Le (wordsF wd n ws)
 | 0, _ => fun r => le_err _ _ _
 | n + 1, ws => fun r => by
  have hb := blanks_le r
  rw [wordsF]
  exact le_ite (fun _ => le_ok hb) (fun _ => le_bind (hw.le _) (fun _ r' _ h => le_up (le_words hw n _ r') (by omega)))
theorem le_each (hw : Lt wd) (hl : Le ls) : Le (eachP wd ls) := fun r => by
 unfold eachP
 refine le_ite (fun hn => ?_) (fun _ => le_fail _ _ _)
 have hne : (peek r).1 ≠ [] := by
  intro e; rw [e] at hn; simp [nameB] at hn
 have h1 := peek_lt hne
 have h0 := blanks_le r
 have h2 := lines_le (peek r).2
 have h3 := blanks_le (lines (peek r).2)
 refine le_bind (m := r.length) (le_ite (fun hb => ?_) (fun _ => le_ok (by omega))) (fun ws r1 _ h4 => ?_)
 ·have h5 := peek_lt2 (by simp) hb
  exact le_up (le_words hw _ _ _) (by omega)
 ·have h6 := take_le [59] r1
  have h7 := lines_le (takeR [59] r1)
  exact le_bind (le_loop hl _) (fun _ r2 _ h => le_ok (by omega))
theorem le_pats (hw : Lt wd) : ∀ (n : Nat) (ps : List (List Part)), Le (patsF wd n ps)
 | 0, _ => fun r => le_err _ _ _
 | n + 1, ps => fun r => by
  rw [patsF]
  refine le_bind (hw.le _) (fun w r1 _ h => le_ite (fun _ => le_up (le_pats hw n _ _) ?_) (fun _ => le_ok ?_))
  ·have := blanks_le r1; simp; omega
  ·have := blanks_le r1; omega
theorem le_cases (hw : Lt wd) (hl : Le ls) : ∀ (n : Nat) (cs : List Cas), Le (casesF wd ls n cs)
 | 0, _ => fun r => le_err _ _ _
 | n + 1, cs => fun r => by
  have hb := blanks_le r
  rw [casesF]
  refine le_ite (fun h => le_ok (by have := peek_lt2 (by simp) h; omega)) (fun _ => ?_)
  refine le_bind (le_pats hw _ _ _) (fun ps r1 _ h1 => le_bind (le_want _ _ (by simp)) (fun _ r2 _ h2 => ?_))
  have h3 := lines_le r2
  have h4 := blanks_le (lines r2)
  have h5 := take_le [40] (blanks r)
  refine le_bind (m := r.length) (le_ite (fun _ => le_ok (by omega)) (fun _ => le_up (hl _) (by omega))) (fun l r3 _ h6 => ?_)
  have h7 := blanks_le r3
  refine le_ite (fun _ => le_up (le_cases hw hl n _ _) ?_) (fun _ => le_bind (le_must _ (by simp) _) (fun _ r4 _ h => le_ok (by omega)))
  have h8 := lines_le ((blanks r3).drop 2)
  simp only [List.length_drop] at h8; omega
theorem le_choice (hw : Lt wd) (hl : Le ls) : Le (choiceP wd ls) := fun r => by
 refine le_bind (hw.le _) (fun w r1 _ h1 => le_bind (le_must _ (by simp) _) (fun _ r2 _ h2 => le_bind (le_cases hw hl _ _ _) (fun cs r3 _ h3 => le_ok ?_)))
 have := lines_le r1
 have := lines_le r2
 omega
theorem le_branch (hl : ∀ d, Le (lsd d)) : ∀ (n d : Nat), Le (branchF lsd n d)
 | 0, _ => fun r => le_err _ _ _
 | n + 1, d => fun r => by
  rw [branchF]
  refine le_bind (hl _ _) (fun c r1 _ h1 => le_bind (le_must _ (by simp) _) (fun _ r2 _ h2 => le_bind (hl _ _) (fun b r3 _ h3 => ?_)))
  have hb := blanks_le r3
  have hb2 := blanks_le (blanks r3)
  refine le_ite (fun h => le_ite (fun _ => le_fail _ _ _) (fun _ => ?_)) (fun _ => le_ite (fun h => ?_) (fun _ => ?_))
  ·have := peek_lt2 (by simp) h
   exact le_bind (le_branch hl n _ _) (fun _ r4 _ h => le_ok (by omega))
  ·have := peek_lt2 (by simp) h
   exact le_bind (hl _ _) (fun _ r4 _ h => le_bind (le_must _ (by simp) _) (fun _ r5 _ h => le_ok (by omega)))
  ·exact le_bind (le_must _ (by simp) _) (fun _ r5 _ h => le_ok (by omega))
theorem le_comp (hw : Lt wd) (hl : Le ls) (hbr : Le br) : Le (compoundP wd ls br) := fun r => by
 have hb := blanks_le r
 have hb2 := blanks_le (blanks r)
 unfold compoundP
 refine le_ite (fun _ => ?_) (fun _ => ?_)
 ·refine le_bind (hl _) (fun _ r1 _ h1 => le_bind (le_want _ _ (by simp)) (fun _ r2 _ h2 => le_ok ?_))
  simp at h1; omega
 ·dsimp only
  refine le_ite (fun h => ?_) (fun _ => le_ite (fun h => ?_) (fun _ => le_ite (fun h => ?_) (fun _ => le_ite (fun h => ?_) (fun _ => le_ite (fun h => ?_) (fun _ => le_ok (by omega))))))
  ·have := peek_lt2 (by simp) h
   exact le_bind (hl _) (fun _ r1 _ h1 => le_bind (le_must _ (by simp) _) (fun _ r2 _ h2 => le_ok (by omega)))
  ·have := peek_lt2 (by simp) h
   exact le_bind (hbr _) (fun _ r1 _ h1 => le_ok (by omega))
  ·have hlt : (peek (blanks r)).2.length < (blanks r).length := by
    simp only [Bool.or_eq_true] at h
    rcases h with h | h
    ·exact peek_lt2 (by simp) h
    ·exact peek_lt2 (by simp) h
   exact le_bind (hl _) (fun _ r1 _ h1 => le_bind (le_loop hl _) (fun _ r2 _ h2 => le_ok (by omega)))
  ·have := peek_lt2 (by simp) h
   exact le_bind (le_each hw hl _) (fun _ r1 _ h1 => le_ok (by omega))
  ·have := peek_lt2 (by simp) h
   exact le_bind (le_choice hw hl _) (fun _ r1 _ h1 => le_ok (by omega))
theorem le_function (hw : Lt wd) (hc : Le comp) (d : Nat) (name : Bytes) : Le (functionP wd d comp name) := fun r => by
 unfold functionP
 refine le_bind (le_want _ _ (by simp)) (fun _ r1 _ h1 => le_ite (fun _ => le_fail _ _ _) (fun _ => le_bind (hc _) (fun o r2 _ h2 => ?_)))
 have := lines_le r1
 cases o with
 | none => exact le_fail _ _ _
 | some c => exact le_bind (le_redirs hw _ _ _) (fun _ r3 _ h3 => le_ok (by omega))
theorem le_pipeF (hc : Le cmd) : ∀ (n : Nat) (neg : Bool) (cs : List Cmd), Le (pipeF cmd n neg cs)
 | 0, _, _ => fun r => le_err _ _ _
 | n + 1, neg, cs => fun r => by
  rw [pipeF]
  refine le_bind (hc _) (fun c r1 _ h1 => ?_)
  have hb := blanks_le r1
  refine le_ite (fun _ => le_up (le_pipeF hc n _ _ _) ?_) (fun _ => le_ok (by omega))
  have := lines_le ((blanks r1).drop 1)
  simp only [List.length_drop] at this; omega
theorem le_pipe (hc : Le cmd) : Le (pipeP cmd) := fun r => by
 have hb := blanks_le r
 exact le_ite (fun h => le_up (le_pipeF hc _ _ _ _) (by have := peek_lt2 (by simp) h; omega)) (fun _ => le_up (le_pipeF hc _ _ _ _) (by omega))
theorem le_listF (hp : Le pipe) : ∀ (n : Nat) (ps : List Pip) (os : List Bytes), Le (listF pipe n ps os)
 | 0, _, _ => fun r => le_err _ _ _
 | n + 1, ps, os => fun r => by
  rw [listF]
  refine le_bind (hp _) (fun c r1 _ h1 => ?_)
  have hb := blanks_le r1
  refine le_ite (fun _ => le_up (le_listF hp n _ _ _) ?_) (fun _ => le_ok (by omega))
  have := lines_le ((blanks r1).drop (sgn r1).length)
  simp only [List.length_drop] at this; omega
theorem le_listsF (hl : Le list) : ∀ (n : Nat) (first : Bool) (ls : List Lst), Le (listsF list n first ls)
 | 0, _, _ => fun r => le_err _ _ _
 | n + 1, first, ls => fun r => by
  have hb := blanks_le r
  rw [listsF]
  refine le_ite (fun _ => ?_) (fun _ => le_ok hb)
  refine le_bind (m := r.length) (le_up (hl _) (by split <;> omega)) (fun x r1 _ h1 => ?_)
  have hb1 := blanks_le r1
  have hb2 := blanks_le (blanks r1)
  have h2 := lines_le ((blanks r1).drop 1)
  have h3 := lines_le (blanks r1)
  simp only [List.length_drop] at h2
  exact le_ite (fun _ => le_up (le_listsF hl n _ _ _) (by omega)) (fun _ => le_ite (fun _ => le_up (le_listsF hl n _ _ _) (by omega)) (fun _ => le_ite (fun _ => le_up (le_listsF hl n _ _ _) (by omega)) (fun _ => le_fail _ _ _)))
end
structure LeAll (n : Nat) : Prop where
 lists : ∀ d, Le (lists n d)
 command : ∀ d, Le (command n d)
 compound : ∀ d, Le (compound n d)
 word : ∀ d, Lt (wordS n d)
theorem le_all : ∀ n, LeAll n
 | 0 => ⟨fun d r => by rw [lists]; exact le_err _ _ _, fun d r => by rw [command]; exact le_err _ _ _, fun d r => by rw [compound]; exact le_err _ _ _, fun d => lt_of (fun r v r' e => by rw [wordS] at e; simp at e)⟩
 | n + 1 => by
  obtain ⟨h1, h2, h3, h4⟩ := le_all n
  refine ⟨fun d r => ?_, fun d r => ?_, fun d r => ?_, fun d => lt_of (fun r v r' e => ?_)⟩
  ·rw [lists]; exact le_ite (fun _ => le_fail _ _ _) (fun _ => le_up (le_listsF (le_listF (le_pipe (h2 _)) _ _ _) _ _ _ _) (lines_le r))
  ·rw [command]
   refine le_bind (h3 _ _) (fun o r1 _ hh => ?_)
   cases o with
   | some c => exact le_bind (le_redirs (h4 _) _ _ _) (fun _ r2 _ hh2 => le_ok (by omega))
   | none => exact le_up (le_simple (h4 _) (fun n => le_function (h4 _) (h3 _) _ _) _ _ _ _ _) hh
  ·rw [compound]; exact le_comp (h4 _) (h1 _) (le_branch (fun d => h1 d) _ _) r
  ·rw [wordS] at e
   exact (lt_word _).lt e
end Go.Proofs.YtdfnkmiabmjolaaGreatDoor
namespace Go.Proofs.YtdfnkmiabmjolaaGreatDoor
open Go.RowKit
def CmdSaid (cmd : Bytes → Rs Cmd) (d : Nat) (m : Nat) : Prop := ∀ (g : Nat) (s : ByteArray) (r : Bytes) (w : World), ParsR w g s r d → s.size ≤ 8192 → r.length ≤ m →
 Calls Tryz.prog 87 #[.pointer (some ⟨g, 0, none⟩)] w (PPost w g s d (cmd r) (isCmd w))
def pipeRest (cmd : Bytes → Rs Cmd) (n : Nat) (neg : Bool) (cs : List Cmd) (r1 : Bytes) : Rs Pip := if sgn r1 == [124] then pipeF cmd n neg cs (lines ((blanks r1).drop 1)) else .ok (.mk neg cs) (blanks r1)
theorem pipeF_eq (cmd : Bytes → Rs Cmd) (n : Nat) (neg : Bool) (cs : List Cmd) (r : Bytes) : pipeF cmd (n + 1) neg cs r = (cmd r).bind fun c r1 => pipeRest cmd n neg (cs ++ [c]) r1 := by rw [pipeF]; rfl
def PipeRel (cmd : Bytes → Rs Cmd) (w : World) (g X : Nat) (s : ByteArray) (d : Nat) (neg : Bool) (R : Rs Pip) (m : Nat) (k : Nat) (wr : World) : Prop :=
 ∃ (cs : List Cmd) (r1 : Bytes) (A : Option Addr) (c L : Nat), cs.length = L ∧ Hid (R = pipeRest cmd k neg cs r1) ∧ ParsR wr g s r1 d ∧ r1.length ≤ k ∧ r1.length ≤ m ∧ cs.length + k ≤ 8193 ∧
  wr.heap[X]? = some (.cells #[.bool neg, .slice A L c] 42) ∧ Own wr (fun j => X < j) 49 9 (.slice A L c) (Cmd.ds cs) ∧ Chg (· = g) w wr ∧
  wr.heap[w.heap.size]? = some (.cells #[.bool false, .slice none 0 0] 42)
set_option maxRecDepth 100000 in
set_option maxHeartbeats 4000000 in
theorem pipe_calls (cmd : Bytes → Rs Cmd) (d : Nat) (m : Nat) (hc : CmdSaid cmd d m) (hle : ∀ r c r1, cmd r = .ok c r1 → r1.length ≤ r.length) (g : Nat) (s : ByteArray) (r : Bytes) (w : World) (h : ParsR w g s r d) (hs : s.size ≤ 8192) (hm : r.length ≤ m) :
  Calls Tryz.prog 73 #[.pointer (some ⟨g, 0, none⟩)] w (PPost w g s d (pipeP cmd r) (isPip w)) := by
 have hgl := h.lt
 have hrl := h.len
 have hK := fun w h => key_calls g s r d [33] (by simp) w h hs
 have hR : ∃ n neg b, pipeP cmd r = pipeF cmd (n + 1) neg [] b ∧ r.length = n ∧ neg = ((peek r).1 == [33]) ∧ b = (if (peek r).1 == [33] then (peek r).2 else blanks r) := by
  refine ⟨r.length, (peek r).1 == [33], _, ?_, rfl, rfl, rfl⟩
  unfold pipeP
  cases (peek r).1 == [33] <;> rfl
 obtain ⟨n, neg, b, hR, hn, hneg, hb⟩ := hR
 rw [← hb, ← hneg] at hK
 have hbr : b.length ≤ r.length := by
  have := blanks_le r
  rw [hb]
  split
  ·rename_i h1; have := peek_lt2 (by simp) h1; omega
  ·exact this
 generalize pipeP cmd r = R at *
 have HR := Lib.hid hR; clear hR
 clear hneg hb
 go_enter Tryz.func73, Tryz.ntmps73
 have hC0 : Chg (· = g) w (w.alloc (.cells #[.bool false, .slice none 0 0] 42)) := (Chg.refl _ w).alloc _
 have hP0 := ParsR.chg (B := fun _ => False) h ((Chg.refl _ w).alloc (.cells #[.bool false, .slice none 0 0] 42)) (fun e => e)
 have hZ0 := row_new w (.cells #[.bool false, .slice none 0 0] 42)
 go_wp2_with fail
 refine Calls.mono (hK _ hP0) ?_
 rintro e w1 ⟨rfl, hP, hC⟩
 have hZ1 := row_chg hZ0 hC (by omega)
 have hC1 := hC0.trans hC (fun _ h _ => h)
 have hs0 : w.heap.size < w1.heap.size := by have := hC.size; simp at this; omega
 clear hK hZ0 hP0 hC0 hC
 go_wp2
 have hC2 := hC1.alloc (.cells #[.bool neg, .slice none 0 0] 42)
 have hP1 := ParsR.chg (B := fun _ => False) hP ((Chg.refl _ w1).alloc (.cells #[.bool neg, .slice none 0 0] 42)) (fun e => e)
 have hX1 := row_new w1 (.cells #[.bool neg, .slice none 0 0] 42)
 have hZ2 := row_alloc hZ1 (.cells #[.bool neg, .slice none 0 0] 42)
 have hsz : (w1.alloc (.cells #[.bool neg, .slice none 0 0] 42)).heap.size = w1.heap.size + 1 := by simp
 have hne : w1.heap.size ≠ g := by have := hP.lt; omega
 revert hP1 hX1 hZ2 hC2 hsz
 generalize w1.alloc (.cells #[.bool neg, .slice none 0 0] 42) = W
 intro hCW hP1 hX1 hZ2 hsz
 have z1 := row_cells hX1 1
 clear hP hZ1 hC1
 refine wp_region_any (by kernel_rfl) ?_
 change wpAny _ _ _ _ _ _ _ (World.drew _)
 refine wpAny_take (i := 0) (v := .pointer (some ⟨w1.heap.size, 1, none⟩)) rfl (by kernel_rfl) (by kernel_rfl) (by kernel_rfl) (fun _ _ _ h => h) (Or.inl ⟨by rfl, by intro w; go_simp⟩) ?_
 refine wpAny_take (i := 2) (v := .pointer (some ⟨g, 0, none⟩)) rfl (by kernel_rfl) (by kernel_rfl) (by kernel_rfl) (fun _ _ _ h => h) (Or.inl ⟨by rfl, by intro w; go_simp⟩) ?_
 simp only [Act.put, List.setIfInBounds_toArray, List.set_cons_zero, List.set_cons_succ]
 refine wpAny_load_ahead (fun w' => w'.cell? ⟨w1.heap.size, 1, none⟩ = some (.slice none 0 0)) (i := 1) (c := 3) (c2 := 4) (.slice none 0 0) rfl rfl rfl (by decide) (by decide) (by kernel_rfl) (by kernel_rfl) (by kernel_rfl) (fun _ _ _ h => h) (by kernel_rfl) (by kernel_rfl) (by kernel_rfl) (by kernel_rfl) (by kernel_rfl) (Or.inl ⟨by rfl, by intro w hw; go_simp⟩) z1 ?_
 simp only [Act.put, List.setIfInBounds_toArray, List.set_cons_zero, List.set_cons_succ]
 refine wpOp_step rfl (fun K hK => ?_)
 go_simp
 refine Calls.mono (hc g s b _ (hP1.drewN 1) hs (by omega)) ?_
 rintro e w2 hp
 rcases ppost_cases hp with ⟨x, r1, v, hX, rfl, ⟨cs1, rfl, hcs⟩, hP2, hC3⟩ | ⟨l, c, k, hX, hk, hl, rfl, hC3⟩
 rotate_left
 ·exact ⟨rfl, by rw [HR.out, pipeF_eq, hX]; exact ⟨k, hk, hl, rfl, (hCW.drewN 1).trans hC3 (fun _ h _ => h)⟩⟩
 clear hp
 have hr1 := hle _ _ _ hX
 have HR2 : Hid (R = pipeRest cmd n neg ([] ++ [x]) r1) := Lib.hid (by rw [HR.out, pipeF_eq, hX]; rfl)
 have z2 := hC3.cell z1 hne
 have hXb := row_chg (B := (· = g)) (w := W.drew) hX1 hC3 hne
 obtain ⟨k, nn, A1, n1, c1, A2, n2, c2, A3, n3, c3, A4, n4, c4, A5, n5, c5, A6, n6, c6, A7, n7, c7, rfl⟩ := cmd_form hcs
 have hCX : Chg (· = g) w w2 := (hCW.drewN 1).trans hC3 (fun _ h _ => h)
 refine hK _ _ ⟨z2, ?_⟩
 clear hK K
 refine wpOp_step rfl (fun K hK => ?_)
 go_simp
 refine hK _ _ ⟨by rw [World.cell?_alloc_some _ _ _ (by rw [z2]; rfl)]; exact z2, ?_⟩
 clear hK K
 refine wpAny_tail 5 _ rfl (by kernel_rfl) ?_
 change wpList _ _ _ [_, _, _] _ _
 clear hX HR
 have HCS := Lib.hid hcs; clear hcs
 have hN : W.heap.size ≤ w2.heap.size := hC3.size
 have hgX := hP2.lt
 have hR2l : r1.length ≤ n := by omega
 go_wp2_with (at_builtin; refine own_append2 (fun j => w1.heap.size < j) W.heap.size rfl _ _ _ _ _ 9 192 rfl Tryz.underlying40 info_Cmd rfl (by decide) (by decide) (.slice none 0 0) (Cmd.ds []) x.d _ rfl (by simp [Act.eval]) HCS.out rfl (fun k hk => by omega) hN (by simp [Value.ownBlock]) (Own.nil _ _ _ _) (by decide) ?_)
 intro A c w3 hO hC4'
 have hC4 : Chg (fun j => w1.heap.size < j) w2 w3 := hC4'.mono (fun k hk _ => ((Own.nil _ _ _ _) : Own w2 (fun j => w1.heap.size < j) 49 9 _ (Cmd.ds [])).block hk.symm)
 clear hC4'
 have e1 : (Cmd.ds []).length + 1 = ([] ++ [x]).length := by rw [Cmd.ds_map]; simp
 have e2 : Cmd.ds [] ++ [x.d] = Cmd.ds ([] ++ [x]) := by rw [Cmd.ds_map, Cmd.ds_map]; simp
 rw [e1, e2] at hO
 rw [e1]
 generalize hL : ([] ++ [x]).length = L at hO ⊢
 have hXc := row_chg (B := (fun j => w1.heap.size < j)) (w := w2) hXb hC4 (by omega)
 have hZc := row_chg (B := (fun j => w1.heap.size < j)) (w := w2) (row_chg (B := (· = g)) (w := W.drew) hZ2 hC3 (by omega)) hC4 (by omega)
 have hP3 := hP2.chg hC4 (by omega)
 have hC5 : Chg (· = g) w w3 := hCX.trans hC4 (fun k hk hl => by omega)
 have hfr := row_free hXc 1
 have hcl := row_cells hXc 1
 clear HCS hXb hC4 hP2 hCX z2 z1 hX1 hZ2 hC3 hCW e1 e2
 go_wp2
 have hXd := row_set hXc 1 (.slice A L c)
 have hZd := row_far hZc (p := ⟨w1.heap.size, 1, none⟩) (by simp; omega) (.slice A L c)
 have hC6 := hC5.setCell (p := ⟨w1.heap.size, 1, none⟩) (fun h => by simp at h; omega) (.slice A L c)
 have hP4 := ParsR.chg (B := (· = w1.heap.size)) hP3 (setCell_chg w3 w1.heap.size 1 (.slice A L c)) (by omega)
 have hO2 := hO.stay (B := (· = w1.heap.size)) (setCell_chg w3 w1.heap.size 1 (.slice A L c)) (fun k hk e => by omega)
 clear hXc hZc hC5 hP3 hO hfr hcl
 go_loopg [] n (fun k wr => PipeRel cmd w g w1.heap.size s d neg R m k wr)
 case atStart => exact ⟨_, _, _, _, _, hL, HR2, hP4, hR2l, by omega, by simp only [List.length_append, List.length_cons, List.length_nil]; omega, hXd, hO2, hC6, hZd⟩
 case round =>
  clear HR2 hP4 hR2l hXd hO2 hC6 hZd
  clear hgX hN hr1 hsz hL
  obtain ⟨cs, r1, A, c, L, hL, HR, hP, hk1, hk2, hcl, hX1, hO, hCW, hZ2⟩ := hrel
  have hT := take_calls g s r1 d [124] wr hP hs
  cases hbar : sgn r1 == [124]
  case false =>
   have HR2 : Hid (R = .ok (.mk neg cs) (blanks r1)) := Lib.hid (by rw [HR.out, pipeRest, if_neg (by rw [hbar]; simp)])
   rw [takeR, hbar] at hT
   simp only [Bool.false_eq_true, if_false] at hT
   clear hbar HR
   go_wp2_with fail
   refine Calls.mono hT ?_
   rintro e w4 ⟨rfl, hP4, hC4⟩
   have hX2 := row_chg hX1 hC4 hne
   have hZ3 := row_chg hZ2 hC4 (by omega)
   have hO4 := hO.stay hC4 (fun k hk e => by omega)
   have hC5 := hCW.trans hC4 (fun _ h _ => h)
   have hcX := row_cells hX2
   have hcZ := row_cells hZ3
   have hfZ := row_free hZ3
   clear hT hX1 hZ2 hO hCW hC4
   go_wp2
   have hCZ : Chg (· = w.heap.size) w4 ((w4.setCell ⟨w.heap.size, 0, none⟩ (.bool neg)).setCell ⟨w.heap.size, 1, none⟩ (.slice A L c)) := (setCell_chg w4 w.heap.size 0 _).setCell (fun _ => rfl) _
   refine bodyPost_ret (v := .agg #[.bool neg, .slice A L c]) (by simp [results, Tryz.results73, go_sem, hcZ]) rfl ?_
   rw [HR2.out]
   refine ⟨_, rfl, ⟨[.bool neg, .slice A L c], rfl, pip_rep.2 ⟨_, rfl, ?_⟩⟩, ParsR.chg hP4 hCZ (by omega), hC5.trans hCZ (fun k hk hl => by omega)⟩
   exact ((hO4.stay hCZ (fun k hk e => by omega)).rep).mono (fun k hk _ => by omega)
  case true =>
   rw [takeR, hbar] at hT
   simp only [if_true] at hT
   have hbl := sgn_len hbar
   have hbl2 := blanks_le r1
   have hln := lines_le ((blanks r1).drop 1)
   simp only [List.length_drop, List.length_cons, List.length_nil] at hln hbl
   obtain ⟨gn, rfl⟩ : ∃ n, gk = n + 1 := ⟨gk - 1, by omega⟩
   have HR1 : Hid (R = pipeF cmd (gn + 1) neg cs (lines ((blanks r1).drop 1))) := Lib.hid (by rw [HR.out, pipeRest, if_pos hbar])
   clear HR hbar
   generalize hb' : lines ((blanks r1).drop 1) = b' at *
   go_wp2_with fail
   refine Calls.mono hT ?_
   rintro e w4 ⟨rfl, hP4, hC4⟩
   go_wp2_with fail
   refine Calls.mono (lines_calls g s _ d w4 hP4 hs) ?_
   rintro e w5 ⟨rfl, hP5, hC5⟩
   simp only [List.length_cons, List.length_nil, hb'] at hP5
   have hX2 := row_chg (row_chg hX1 hC4 hne) hC5 hne
   have hZ3 := row_chg (row_chg hZ2 hC4 (by omega)) hC5 (by omega)
   have hO5 := (hO.stay hC4 (fun k hk e => by omega)).stay hC5 (fun k hk e => by omega)
   have hC6 := (hCW.trans hC4 (fun _ h _ => h)).trans hC5 (fun _ h _ => h)
   have hvN : ∀ j, (Value.slice A L c).ownBlock = some j → j < w5.heap.size := fun j hj => hO5.lt hj
   clear hT hX1 hZ2 hO hCW hC4 hP4 hC5 hP hb'
   have hX1 := hX2
   have hZ2 := hZ3
   have hCW := hC6
   have HR := HR1
   have z1 := row_cells hX1 1
   have hsz : w1.heap.size < w5.heap.size := row_lt hX1
   clear hX2 hZ3 hC6 HR1
   go_wp2
   refine wp_region_any (by kernel_rfl) ?_
   change wpAny _ _ _ _ _ _ _ (World.drew _)
   refine wpAny_take (i := 0) (v := .pointer (some ⟨w1.heap.size, 1, none⟩)) rfl (by kernel_rfl) (by kernel_rfl) (by kernel_rfl) (fun _ _ _ h => h) (Or.inl ⟨by rfl, by intro w; go_simp⟩) ?_
   refine wpAny_take (i := 2) (v := .pointer (some ⟨g, 0, none⟩)) rfl (by kernel_rfl) (by kernel_rfl) (by kernel_rfl) (fun _ _ _ h => h) (Or.inl ⟨by rfl, by intro w; go_simp⟩) ?_
   simp only [Act.put, List.setIfInBounds_toArray, List.set_cons_zero, List.set_cons_succ]
   refine wpAny_load_ahead (fun w' => w'.cell? ⟨w1.heap.size, 1, none⟩ = some (.slice A L c)) (i := 1) (c := 3) (c2 := 4) (.slice A L c) rfl rfl rfl (by decide) (by decide) (by kernel_rfl) (by kernel_rfl) (by kernel_rfl) (fun _ _ _ h => h) (by kernel_rfl) (by kernel_rfl) (by kernel_rfl) (by kernel_rfl) (by kernel_rfl) (Or.inl ⟨by rfl, by intro w hw; go_simp⟩) z1 ?_
   simp only [Act.put, List.setIfInBounds_toArray, List.set_cons_zero, List.set_cons_succ]
   refine wpOp_step rfl (fun K hK => ?_)
   go_simp
   refine Calls.mono (hc g s b' _ (hP5.drewN 1) hs (by omega)) ?_
   rintro e w2 hp
   rcases ppost_cases hp with ⟨x, r1, v, hX, rfl, ⟨cs1, rfl, hcs⟩, hP2, hC3⟩ | ⟨l, c, k, hX, hk, hl, rfl, hC3⟩
   rotate_left
   ·exact ⟨rfl, by rw [HR.out, pipeF_eq, hX]; exact ⟨k, hk, hl, rfl, (hCW.drewN 1).trans hC3 (fun _ h _ => h)⟩⟩
   clear hp
   have hr1 := hle _ _ _ hX
   have HR2 : Hid (R = pipeRest cmd gn neg (cs ++ [x]) r1) := Lib.hid (by rw [HR.out, pipeF_eq, hX]; rfl)
   have z2 := hC3.cell z1 hne
   have hXb := row_chg (B := (· = g)) (w := w5.drew) hX1 hC3 hne
   obtain ⟨k, nn, A1, n1, c1, A2, n2, c2, A3, n3, c3, A4, n4, c4, A5, n5, c5, A6, n6, c6, A7, n7, c7, rfl⟩ := cmd_form hcs
   have hCX : Chg (· = g) w w2 := (hCW.drewN 1).trans hC3 (fun _ h _ => h)
   refine hK _ _ ⟨z2, ?_⟩
   clear hK K
   refine wpOp_step rfl (fun K hK => ?_)
   go_simp
   refine hK _ _ ⟨by rw [World.cell?_alloc_some _ _ _ (by rw [z2]; rfl)]; exact z2, ?_⟩
   clear hK K
   refine wpAny_tail 5 _ rfl (by kernel_rfl) ?_
   change wpList _ _ _ [_, _, _] _ _
   clear hX HR
   have HCS := Lib.hid hcs; clear hcs
   have hN : w5.heap.size ≤ w2.heap.size := hC3.size
   have hgX := hP2.lt
   have hR2l : r1.length ≤ gn := by omega
   go_wp2_with (at_builtin; refine own_append2 (fun j => w1.heap.size < j) w5.heap.size rfl _ _ _ _ _ 9 192 rfl Tryz.underlying40 info_Cmd rfl (by decide) (by decide) (.slice A L c) (Cmd.ds cs) x.d _ rfl (by simp [Act.eval]) HCS.out rfl (fun k hk => by omega) hN hvN ((hO5.stay ((Chg.refl (fun _ => False) w5).drewN 1) (fun _ _ e => e)).stay hC3 (fun k hk e => by omega)) (by rw [Cmd.ds_map, List.length_map]; omega) ?_)
   intro A c w3 hO hC4'
   have hC4 : Chg (fun j => w1.heap.size < j) w2 w3 := hC4'.mono (fun k hk _ => (((hO5.stay ((Chg.refl (fun _ => False) w5).drewN 1) (fun _ _ e => e)).stay hC3 (fun k hk e => by omega)) : Own w2 (fun j => w1.heap.size < j) 49 9 _ (Cmd.ds cs)).block hk.symm)
   clear hC4'
   have e1 : (Cmd.ds cs).length + 1 = (cs ++ [x]).length := by rw [Cmd.ds_map]; simp
   have e2 : Cmd.ds cs ++ [x.d] = Cmd.ds (cs ++ [x]) := by rw [Cmd.ds_map, Cmd.ds_map]; simp
   rw [e1, e2] at hO
   rw [e1]
   generalize hL : (cs ++ [x]).length = L at hO ⊢
   have hXc := row_chg (B := (fun j => w1.heap.size < j)) (w := w2) hXb hC4 (by omega)
   have hZc := row_chg (B := (fun j => w1.heap.size < j)) (w := w2) (row_chg (B := (· = g)) (w := w5.drew) hZ2 hC3 (by omega)) hC4 (by omega)
   have hP3 := hP2.chg hC4 (by omega)
   have hC5 : Chg (· = g) w w3 := hCX.trans hC4 (fun k hk hl => by omega)
   have hfr := row_free hXc 1
   have hcl := row_cells hXc 1
   clear HCS hXb hC4 hP2 hCX z2 z1 hX1 hZ2 hC3 hCW e1 e2
   go_wp2
   have hXd := row_set hXc 1 (.slice A L c)
   have hZd := row_far hZc (p := ⟨w1.heap.size, 1, none⟩) (by simp; omega) (.slice A L c)
   have hC6 := hC5.setCell (p := ⟨w1.heap.size, 1, none⟩) (fun h => by simp at h; omega) (.slice A L c)
   have hP4 := ParsR.chg (B := (· = w1.heap.size)) hP3 (setCell_chg w3 w1.heap.size 1 (.slice A L c)) (by omega)
   have hO2 := hO.stay (B := (· = w1.heap.size)) (setCell_chg w3 w1.heap.size 1 (.slice A L c)) (fun k hk e => by omega)
   clear hXc hZc hC5 hP3 hO hfr hcl
   go_roundg gn
   case measure => omega
   case rel => exact ⟨_, _, _, _, _, hL, HR2, hP4, hR2l, by omega, by simp only [List.length_append, List.length_cons, List.length_nil]; omega, hXd, hO2, hC6, hZd⟩
def PipSaid (pipe : Bytes → Rs Pip) (d : Nat) (m : Nat) : Prop := ∀ (g : Nat) (s : ByteArray) (r : Bytes) (w : World), ParsR w g s r d → s.size ≤ 8192 → r.length ≤ m →
 Calls Tryz.prog 73 #[.pointer (some ⟨g, 0, none⟩)] w (PPost w g s d (pipe r) (isPip w))
def listRest (pipe : Bytes → Rs Pip) (n : Nat) (ps : List Pip) (os : List Bytes) (r1 : Bytes) : Rs Lst :=
 if sgn r1 == [38, 38] || sgn r1 == [124, 124] then listF pipe n ps (os ++ [sgn r1]) (lines ((blanks r1).drop (sgn r1).length)) else .ok (.mk ps os) (blanks r1)
theorem listF_eq (pipe : Bytes → Rs Pip) (n : Nat) (ps : List Pip) (os : List Bytes) (r : Bytes) : listF pipe (n + 1) ps os r = (pipe r).bind fun c r1 => listRest pipe n (ps ++ [c]) os r1 := by rw [listF]; rfl
def ListRel (pipe : Bytes → Rs Pip) (w : World) (g X : Nat) (s : ByteArray) (d : Nat) (R : Rs Lst) (m : Nat) (k : Nat) (wr : World) : Prop :=
 ∃ (ps : List Pip) (os : List Bytes) (r1 : Bytes) (f : Nat) (A : Option Addr) (c L : Nat) (A2 : Option Addr) (c2 L2 : Nat) (S T : Nat → Prop), ps.length = L ∧ os.length = L2 ∧ Hid (R = listRest pipe f ps os r1) ∧ ParsR wr g s r1 d ∧ r1.length ≤ f ∧ r1.length ≤ k ∧ r1.length ≤ m ∧ L + k ≤ 8193 ∧ L2 + k ≤ 8193 ∧
  wr.heap[X]? = some (.cells #[.slice A L c, .slice A2 L2 c2] 39) ∧ Row wr w.heap.size X 42 2 (.slice A L c) (Pip.ds ps) S ∧ Row wr w.heap.size X 9 1 (.slice A2 L2 c2) (os.map bytesD) T ∧ (∀ k, S k → ¬ T k) ∧ Chg (· = g) w wr ∧
  wr.heap[w.heap.size]? = some (.cells #[.slice none 0 0, .slice none 0 0] 39)
set_option maxRecDepth 100000 in
set_option maxHeartbeats 4000000 in
theorem list_calls (pipe : Bytes → Rs Pip) (d : Nat) (m : Nat) (hc : PipSaid pipe d m) (hle : ∀ r c r1, pipe r = .ok c r1 → r1.length ≤ r.length) (n : Nat) (g : Nat) (s : ByteArray) (r : Bytes) (w : World) (h : ParsR w g s r d) (hs : s.size ≤ 8192) (hm : r.length ≤ m) (hn : r.length ≤ n) :
  Calls Tryz.prog 55 #[.pointer (some ⟨g, 0, none⟩)] w (PPost w g s d (listF pipe (n + 1) [] [] r) (isLst w)) := by
 have hgl := h.lt
 have hrl := h.len
 generalize hR : listF pipe (n + 1) [] [] r = R
 have HR := Lib.hid hR.symm; clear hR
 go_enter Tryz.func55, Tryz.ntmps55
 have hC0 : Chg (· = g) w (w.alloc (.cells #[.slice none 0 0, .slice none 0 0] 39)) := (Chg.refl _ w).alloc _
 have hP0 := ParsR.chg (B := fun _ => False) h ((Chg.refl _ w).alloc (.cells #[.slice none 0 0, .slice none 0 0] 39)) (fun e => e)
 have hZ0 := row_new w (.cells #[.slice none 0 0, .slice none 0 0] 39)
 go_wp2_with fail
 refine Calls.mono (hc g s r _ hP0 hs hm) ?_
 rintro e w1 hp
 rcases ppost_cases hp with ⟨x, r1, v, hX, rfl, ⟨cs1, rfl, hcs⟩, hP, hC⟩ | ⟨l, c, k, hX, hk, hl, rfl, hC⟩
 rotate_left
 ·go_wp2
  exact ⟨rfl, by rw [HR.out, listF_eq, hX]; exact ⟨k, hk, hl, rfl, hC0.trans hC (fun _ h _ => h)⟩⟩
 clear hp
 have hr1 := hle _ _ _ hX
 have HR2 : Hid (R = listRest pipe n ([] ++ [x]) [] r1) := Lib.hid (by rw [HR.out, listF_eq, hX]; rfl)
 have hZ1 := row_chg hZ0 hC (by omega)
 have hC1 := hC0.trans hC (fun _ h _ => h)
 have hs0 : w.heap.size < w1.heap.size := by have := hC.size; simp at this; omega
 obtain ⟨nb, A1, n1, c1, rfl⟩ := pip_form hcs
 have hrow := own_one (e := 42) (sz := 2) hcs.bound rfl
 clear hZ0 hP0 hC0 hC hX HR
 have HCS := Lib.hid hcs; clear hcs
 go_wp2
 have hX1 := row_new (w1.alloc (.cells #[.bool nb, .slice A1 n1 c1] 42)) (.cells #[.slice (some ⟨w1.heap.size, 0, none⟩) 1 1, .slice none 0 0] 39)
 have hCa : Chg (fun _ => False) w1 ((w1.alloc (.cells #[.bool nb, .slice A1 n1 c1] 42)).alloc (.cells #[.slice (some ⟨w1.heap.size, 0, none⟩) 1 1, .slice none 0 0] 39)) := ((Chg.refl _ w1).alloc _).alloc _
 have hCb : Chg (fun _ => False) (w1.alloc (.cells #[.bool nb, .slice A1 n1 c1] 42)) ((w1.alloc (.cells #[.bool nb, .slice A1 n1 c1] 42)).alloc (.cells #[.slice (some ⟨w1.heap.size, 0, none⟩) 1 1, .slice none 0 0] 39)) := (Chg.refl _ _).alloc _
 have hrow2 : Row _ w.heap.size (w1.heap.size + 1) 42 2 _ _ _ := ⟨hrow.stay hCb (fun _ _ e => e), fun k hk => by simp at hk ⊢; omega⟩
 have hZ2 := row_chg hZ1 hCa (fun e => e)
 have hP2 := hP.chg hCa (fun e => e)
 have hC2 := hC1.trans hCa (fun _ h _ => h.elim)
 have hsz2 : ((w1.alloc (.cells #[.bool nb, .slice A1 n1 c1] 42)).alloc (.cells #[.slice (some ⟨w1.heap.size, 0, none⟩) 1 1, .slice none 0 0] 39)).heap.size = w1.heap.size + 1 + 1 := by simp
 simp only [World.size_alloc] at hX1
 clear hrow hCa hCb hZ1 hP hC1 HCS
 revert hX1 hrow2 hZ2 hP2 hC2 hsz2
 generalize (w1.alloc (.cells #[.bool nb, .slice A1 n1 c1] 42)).alloc (.cells #[.slice (some ⟨w1.heap.size, 0, none⟩) 1 1, .slice none 0 0] 39) = W
 intro hrow2 hZ2 hP2 hC2 hsz2 hX1
 have hgX : g < w.heap.size := hgl
 obtain ⟨X, hXe⟩ : ∃ X, X = w1.heap.size + 1 := ⟨_, rfl⟩
 rw [← hXe] at hX1 hrow2 hsz2 ⊢
 have hgX2 : w.heap.size < X := by omega
 go_loopg [] r.length (fun k wr => ListRel pipe w g X s d R m k wr)
 case atStart => exact ⟨[x], [], r1, n, _, _, _, _, _, _, _, _, rfl, rfl, HR2, hP2, by omega, by omega, by omega, by simp only [List.length_cons, List.length_nil]; omega, by simp only [List.length_nil]; omega, hX1, hrow2, Row.none _ _ _ _ _, fun _ _ e => e, hC2, hZ2⟩
 case round =>
  clear hX1 hrow2 hZ2 hP2 hC2 hsz2 HR2 hr1 hXe hs0
  obtain ⟨ps, os, r1, f, A, c, L, A2, c2, L2, S, T, hL, hL2, HR, hP, hf, hk1, hk2, hLk, hLk2, hX1, hS, hT, hST, hC, hZ⟩ := hrel
  have hSg := sign_calls g s r1 d wr hP hs
  have hbl := blanks_le r1
  have hsl := sgn_le r1
  have hln := lines_le ((blanks r1).drop (sgn r1).length)
  have e38 : ((bstr (sgn r1)).toList == [38, 38]) = (sgn r1 == [38, 38]) := by rw [ByteArray.toList_eq, bstr_toList]
  have e124 : ((bstr (sgn r1)).toList == [124, 124]) = (sgn r1 == [124, 124]) := by rw [ByteArray.toList_eq, bstr_toList]
  have hz0 : (bstr (sgn r1)).size = (sgn r1).length := bstr_size _
  rw [listRest] at HR
  have h2 : (sgn r1 == [38, 38] || sgn r1 == [124, 124]) = true → 2 = (sgn r1).length := by
   intro h
   simp only [Bool.or_eq_true, beq_iff_eq] at h
   rcases h with h | h <;> rw [h] <;> rfl
  simp only [List.length_drop] at hln
  generalize hb : blanks r1 = b at *
  generalize hsg : sgn r1 = sg at *
  generalize hb' : lines (b.drop sg.length) = b' at *
  go_wp2_with fail
  refine Calls.mono hSg ?_
  rintro e w4 ⟨rfl, hP4, hC4⟩
  have hX2 := row_chg hX1 hC4 (by omega)
  have hZ2 := row_chg hZ hC4 (by omega)
  have hS2 := hS.stay hC4 (fun k h1 h2 h3 e => by omega)
  have hT2 := hT.stay hC4 (fun k h1 h2 h3 e => by omega)
  have hC2 := hC.trans hC4 (fun _ h _ => h)
  clear hSg hX1 hZ hS hT hC hC4 hP
  cases q38 : sg == [38, 38]
  case false =>
   cases q124 : sg == [124, 124]
   case false =>
    rw [q38, q124] at HR
    rw [q38] at e38
    rw [q124] at e124
    have HR2 : Hid (R = .ok (.mk ps os) b) := Lib.hid HR.out
    clear HR h2 q38 q124
    have hcX := row_cells hX2
    have hcZ := row_cells hZ2
    have hfZ := row_free hZ2
    go_wp2
    have hCZ : Chg (· = w.heap.size) w4 ((w4.setCell ⟨w.heap.size, 0, none⟩ (.slice A L c)).setCell ⟨w.heap.size, 1, none⟩ (.slice A2 L2 c2)) := (setCell_chg w4 w.heap.size 0 _).setCell (fun _ => rfl) _
    refine bodyPost_ret (v := .agg #[.slice A L c, .slice A2 L2 c2]) (by simp [results, Tryz.results55, go_sem, hcZ]) rfl ?_
    rw [HR2.out]
    refine ⟨_, rfl, ⟨[.slice A L c, .slice A2 L2 c2], rfl, lst_rep.2 ⟨_, _, rfl, ?_, ?_⟩⟩, ParsR.chg hP4 hCZ (by omega), hC2.trans hCZ (fun k hk hl => by omega)⟩
    ·exact (hS2.stay hCZ (fun k h1 h2 h3 e => by omega)).rep.mono (fun k hk _ => by omega)
    ·exact (hT2.stay hCZ (fun k h1 h2 h3 e => by omega)).rep.mono (fun k hk _ => by omega)
   case true =>
    rw [q38] at e38
    rw [q124] at e124
    have HR2 : Hid (R = listF pipe f ps (os ++ [sg]) b') := Lib.hid (by rw [HR.out, q38, q124]; rfl)
    have hsl2 : 2 = sg.length := h2 (by rw [q38, q124]; rfl)
    clear HR h2
    generalize hB : bstr sg = sB at *
    have HB := Lib.hid hB; clear hB
    obtain ⟨fn, rfl⟩ : ∃ n, f = n + 1 := ⟨f - 1, by omega⟩
    obtain ⟨a, ha, hbe, hl, hA⟩ := hP4.pos
    obtain ⟨h0, h1, h2', f1, _, hgl4⟩ := ParsAt.cells hA
    have hb1 : a + sg.length ≤ s.size := by omega
    have HP := Lib.hid (fun v hv => ParsR.at' hA (a + sg.length) hb1 v hv)
    have HD : Hid (lines (s.data.toList.drop (a + sg.length)) = b') := Lib.hid (by rw [← List.drop_drop, ← hbe]; exact hb')
    have hbb : b'.length + 2 ≤ r1.length := by omega
    clear hb' hb hsg hbe hP4 q38 hsl2 hln hsl hbl hl
    go_wp2_with fail
    refine Calls.mono (lines_calls g s (s.data.toList.drop (a + sg.length)) d _ (HP.out _ (by go_num)) hs) ?_
    rintro e w5 ⟨rfl, hP5, hC5⟩
    rw [HD.out] at hP5
    have hCs : Chg (· = g) w4 (w4.setCell ⟨g, 1, none⟩ (.int .i64 ((a : Int) + (sg.length : Int)))) := setCell_chg w4 g 1 _
    have hC6 := hCs.trans hC5 (fun _ h _ => h)
    have hX3 := row_chg hX2 hC6 (by omega)
    have hZ3 := row_chg hZ2 hC6 (by omega)
    have hS3 := hS2.stay hC6 (fun k h1 h2 h3 e => by omega)
    have hT3 := hT2.stay hC6 (fun k h1 h2 h3 e => by omega)
    have hC7 := hC2.trans hC6 (fun _ h _ => h)
    have hcX := row_cells hX3
    have hX3l := row_lt hX3
    clear hCs hC6 hX2 hZ2 hS2 hT2 hC2 hC5 h0 h1 h2' f1 hgl4 HP HD hA hz0 e38 e124
    go_wp2_with (at_builtin; refine row_append w.heap.size X T w5.heap.size rfl _ _ _ _ _ 1 16 rfl Tryz.underlying37 info_string rfl (by decide) (by decide) (.slice A2 L2 c2) (os.map bytesD) (bytesD sg) _ rfl (by simp [Act.eval]) (by rw [bytesD, HB.out]; rfl) rfl (Nat.le_refl _) (by omega) (by omega) hT3 hT3.lt (by rw [List.length_map]; omega) ?_)
    intro A3 c3 w6 T6 hT6 hTT hC8
    have e1 : L2 + 1 = (os ++ [sg]).length := by rw [List.length_append, hL2]; rfl
    have e2 : os.map bytesD ++ [bytesD sg] = (os ++ [sg]).map bytesD := by simp
    rw [e1, e2] at hT6
    rw [e1]
    generalize hL3 : (os ++ [sg]).length = L3 at hT6 ⊢
    have hLk3 : L3 + b'.length ≤ 8193 := by rw [← hL3, List.length_append, List.length_singleton]; omega
    have hST6 : ∀ k, S k → ¬ T6 k := fun k hk hk2 => (hTT k hk2).elim (hST k hk) (fun h => by have := hS3.lt k hk; omega)
    have hX4 := row_chg hX3 hC8 (fun h => (hT3.2 X h).2.1 rfl)
    have hZ4 := row_chg hZ3 hC8 (fun h => by have := (hT3.2 _ h).1; omega)
    have hS4 := hS3.apart hC8 hST
    have hP6 := hP5.chg hC8 (fun h => by have := (hT3.2 _ h).1; omega)
    have hC9 := hC7.trans hC8 (fun k hk hl => by have := (hT3.2 _ hk).1; omega)
    have hcX2 := row_cells hX4
    have hfX2 := row_free hX4
    clear hX3 hZ3 hS3 hT3 hC7 hC8 hP5 hTT hcX hST
    go_wp2
    have hX5 := row_set hX4 1 (.slice A3 L3 c3)
    have hCc := setCell_chg w6 X 1 (.slice A3 L3 c3)
    have hZ5 := row_chg hZ4 hCc (by omega)
    have hS5 := hS4.apart hCc (fun k hk e => (hS4.2 k hk).2.1 e)
    have hT5 := hT6.apart hCc (fun k hk e => (hT6.2 k hk).2.1 e)
    have hP7 := hP6.chg hCc (by omega)
    have hC10 := hC9.trans hCc (fun k hk hl => by omega)
    simp only [List.setIfInBounds_toArray, List.set_cons_zero, List.set_cons_succ] at hX5
    clear hX4 hZ4 hS4 hT6 hP6 hC9 hcX2 hfX2 hCc
    generalize w6.setCell ⟨X, 1, none⟩ (.slice A3 L3 c3) = w7 at hX5 hZ5 hS5 hT5 hP7 hC10 ⊢
    have z1 := row_cells hX5 0
    have hX5l := row_lt hX5
    refine wp_region_any (by kernel_rfl) ?_
    change wpAny _ _ _ _ _ _ _ (World.drew _)
    refine wpAny_take (i := 0) (v := .pointer (some ⟨X, 0, none⟩)) rfl (by kernel_rfl) (by kernel_rfl) (by kernel_rfl) (fun _ _ _ h => h) (Or.inl ⟨by rfl, by intro w; go_simp⟩) ?_
    refine wpAny_take (i := 2) (v := .pointer (some ⟨g, 0, none⟩)) rfl (by kernel_rfl) (by kernel_rfl) (by kernel_rfl) (fun _ _ _ h => h) (Or.inl ⟨by rfl, by intro w; go_simp⟩) ?_
    simp only [Act.put, List.setIfInBounds_toArray, List.set_cons_zero, List.set_cons_succ]
    refine wpAny_load_ahead (fun w' => w'.cell? ⟨X, 0, none⟩ = some (.slice A L c)) (i := 1) (c := 3) (c2 := 4) (.slice A L c) rfl rfl rfl (by decide) (by decide) (by kernel_rfl) (by kernel_rfl) (by kernel_rfl) (fun _ _ _ h => h) (by kernel_rfl) (by kernel_rfl) (by kernel_rfl) (by kernel_rfl) (by kernel_rfl) (Or.inl ⟨by rfl, by intro w hw; go_simp⟩) z1 ?_
    simp only [Act.put, List.setIfInBounds_toArray, List.set_cons_zero, List.set_cons_succ]
    refine wpOp_step rfl (fun K hK => ?_)
    go_simp
    refine Calls.mono (hc g s b' _ (hP7.drewN 1) hs (by omega)) ?_
    rintro e w8 hp
    rcases ppost_cases hp with ⟨x, r2, v, hXx, rfl, ⟨cs1, rfl, hcs⟩, hP8, hC11⟩ | ⟨l, c, k, hXx, hk, hl, rfl, hC11⟩
    rotate_left
    ·exact ⟨rfl, by rw [HR2.out, listF_eq, hXx]; exact ⟨k, hk, hl, rfl, (hC10.drewN 1).trans hC11 (fun _ h _ => h)⟩⟩
    clear hp
    have hr2 := hle _ _ _ hXx
    have HR3 : Hid (R = listRest pipe fn (ps ++ [x]) (os ++ [sg]) r2) := Lib.hid (by rw [HR2.out, listF_eq, hXx]; rfl)
    have z2 := hC11.cell z1 (by simp; omega)
    obtain ⟨nb2, A4, n4, c4, rfl⟩ := pip_form hcs
    refine hK _ _ ⟨z2, ?_⟩
    clear hK K
    refine wpOp_step rfl (fun K hK => ?_)
    go_simp
    refine hK _ _ ⟨by rw [World.cell?_alloc_some _ _ _ (by rw [z2]; rfl)]; exact z2, ?_⟩
    clear hK K
    refine wpAny_tail 5 _ rfl (by kernel_rfl) ?_
    change wpList _ _ _ [_, _, _] _ _
    have hX6 := row_chg (B := (· = g)) (w := w7.drew) hX5 hC11 (by omega)
    have hZ6 := row_chg (B := (· = g)) (w := w7.drew) hZ5 hC11 (by omega)
    have hS6 := (hS5.drew 1).stay hC11 (fun k h1 h2 h3 e => by omega)
    have hT7 := (hT5.drew 1).stay hC11 (fun k h1 h2 h3 e => by omega)
    have hC12 := (hC10.drewN 1).trans hC11 (fun _ h _ => h)
    have hN : w7.heap.size ≤ w8.heap.size := hC11.size
    have hSl : ∀ k, S k → k < w7.heap.size := hS5.lt
    have hTl : ∀ k, T6 k → k < w7.heap.size := hT5.lt
    have HCS := Lib.hid hcs
    clear hcs hXx HR2 hX5 hZ5 hS5 hT5 hC10 hC11 hP7 z1 z2
    go_wp2_with (at_builtin; refine row_append w.heap.size X S w7.heap.size rfl _ _ _ _ _ 2 32 rfl Tryz.underlying36 info_Pipe rfl (by decide) (by decide) (.slice A L c) (Pip.ds ps) x.d _ rfl (by simp [Act.eval]) HCS.out rfl hN (by omega) (by omega) hS6 hSl (by rw [Pip.ds_map, List.length_map]; omega) ?_)
    intro A5 c5 w9 S9 hS9 hSS hC13
    have e3 : (Pip.ds ps).length + 1 = (ps ++ [x]).length := by rw [Pip.ds_map]; simp
    have e4 : Pip.ds ps ++ [x.d] = Pip.ds (ps ++ [x]) := by rw [Pip.ds_map, Pip.ds_map]; simp
    rw [e3, e4] at hS9
    rw [e3]
    generalize hL5 : (ps ++ [x]).length = L5 at hS9 ⊢
    have hLk5 : L5 + b'.length ≤ 8193 := by rw [← hL5, List.length_append, List.length_singleton]; omega
    have hST9 : ∀ k, S9 k → ¬ T6 k := fun k hk hk2 => (hSS k hk).elim (fun h => hST6 k h hk2) (fun h => by have := hTl k hk2; omega)
    have hX7 := row_chg hX6 hC13 (fun h => (hS6.2 X h).2.1 rfl)
    have hZ7 := row_chg hZ6 hC13 (fun h => by have := (hS6.2 _ h).1; omega)
    have hT8 := hT7.apart hC13 (fun k hk hk2 => hST6 k hk2 hk)
    have hP9 := hP8.chg hC13 (fun h => by have := (hS6.2 _ h).1; omega)
    have hC14 := hC12.trans hC13 (fun k hk hl => by have := (hS6.2 _ hk).1; omega)
    have hcX2 := row_cells hX7
    have hfX2 := row_free hX7
    clear hX6 hZ6 hS6 hT7 hC12 hC13 hP8 hSS hST6 HCS hSl hTl hN hX5l e1 e2 e3 e4
    go_wp2
    have hX8 := row_set hX7 0 (.slice A5 L5 c5)
    have hCc := setCell_chg w9 X 0 (.slice A5 L5 c5)
    have hZ8 := row_chg hZ7 hCc (by omega)
    have hS10 := hS9.apart hCc (fun k hk e => (hS9.2 k hk).2.1 e)
    have hT10 := hT8.apart hCc (fun k hk e => (hT8.2 k hk).2.1 e)
    have hP10 := hP9.chg hCc (by omega)
    have hC15 := hC14.trans hCc (fun k hk hl => by omega)
    go_roundg b'.length
    case measure => omega
    case rel => exact ⟨_, _, _, _, _, _, _, _, _, _, _, _, hL5, hL3, HR3, hP10, by omega, hr2, by omega, hLk5, hLk3, hX8, hS10, hT10, hST9, hC15, hZ8⟩
  case true =>
   rw [q38] at e38
   have HR2 : Hid (R = listF pipe f ps (os ++ [sg]) b') := Lib.hid (by rw [HR.out, q38]; rfl)
   have hsl2 : 2 = sg.length := h2 (by rw [q38]; rfl)
   clear HR h2
   generalize hB : bstr sg = sB at *
   have HB := Lib.hid hB; clear hB
   obtain ⟨fn, rfl⟩ : ∃ n, f = n + 1 := ⟨f - 1, by omega⟩
   obtain ⟨a, ha, hbe, hl, hA⟩ := hP4.pos
   obtain ⟨h0, h1, h2', f1, _, hgl4⟩ := ParsAt.cells hA
   have hb1 : a + sg.length ≤ s.size := by omega
   have HP := Lib.hid (fun v hv => ParsR.at' hA (a + sg.length) hb1 v hv)
   have HD : Hid (lines (s.data.toList.drop (a + sg.length)) = b') := Lib.hid (by rw [← List.drop_drop, ← hbe]; exact hb')
   have hbb : b'.length + 2 ≤ r1.length := by omega
   clear hb' hb hsg hbe hP4 q38 hsl2 hln hsl hbl hl
   go_wp2_with fail
   refine Calls.mono (lines_calls g s (s.data.toList.drop (a + sg.length)) d _ (HP.out _ (by go_num)) hs) ?_
   rintro e w5 ⟨rfl, hP5, hC5⟩
   rw [HD.out] at hP5
   have hCs : Chg (· = g) w4 (w4.setCell ⟨g, 1, none⟩ (.int .i64 ((a : Int) + (sg.length : Int)))) := setCell_chg w4 g 1 _
   have hC6 := hCs.trans hC5 (fun _ h _ => h)
   have hX3 := row_chg hX2 hC6 (by omega)
   have hZ3 := row_chg hZ2 hC6 (by omega)
   have hS3 := hS2.stay hC6 (fun k h1 h2 h3 e => by omega)
   have hT3 := hT2.stay hC6 (fun k h1 h2 h3 e => by omega)
   have hC7 := hC2.trans hC6 (fun _ h _ => h)
   have hcX := row_cells hX3
   have hX3l := row_lt hX3
   clear hCs hC6 hX2 hZ2 hS2 hT2 hC2 hC5 h0 h1 h2' f1 hgl4 HP HD hA hz0 e38 e124
   go_wp2_with (at_builtin; refine row_append w.heap.size X T w5.heap.size rfl _ _ _ _ _ 1 16 rfl Tryz.underlying37 info_string rfl (by decide) (by decide) (.slice A2 L2 c2) (os.map bytesD) (bytesD sg) _ rfl (by simp [Act.eval]) (by rw [bytesD, HB.out]; rfl) rfl (Nat.le_refl _) (by omega) (by omega) hT3 hT3.lt (by rw [List.length_map]; omega) ?_)
   intro A3 c3 w6 T6 hT6 hTT hC8
   have e1 : L2 + 1 = (os ++ [sg]).length := by rw [List.length_append, hL2]; rfl
   have e2 : os.map bytesD ++ [bytesD sg] = (os ++ [sg]).map bytesD := by simp
   rw [e1, e2] at hT6
   rw [e1]
   generalize hL3 : (os ++ [sg]).length = L3 at hT6 ⊢
   have hLk3 : L3 + b'.length ≤ 8193 := by rw [← hL3, List.length_append, List.length_singleton]; omega
   have hST6 : ∀ k, S k → ¬ T6 k := fun k hk hk2 => (hTT k hk2).elim (hST k hk) (fun h => by have := hS3.lt k hk; omega)
   have hX4 := row_chg hX3 hC8 (fun h => (hT3.2 X h).2.1 rfl)
   have hZ4 := row_chg hZ3 hC8 (fun h => by have := (hT3.2 _ h).1; omega)
   have hS4 := hS3.apart hC8 hST
   have hP6 := hP5.chg hC8 (fun h => by have := (hT3.2 _ h).1; omega)
   have hC9 := hC7.trans hC8 (fun k hk hl => by have := (hT3.2 _ hk).1; omega)
   have hcX2 := row_cells hX4
   have hfX2 := row_free hX4
   clear hX3 hZ3 hS3 hT3 hC7 hC8 hP5 hTT hcX hST
   go_wp2
   have hX5 := row_set hX4 1 (.slice A3 L3 c3)
   have hCc := setCell_chg w6 X 1 (.slice A3 L3 c3)
   have hZ5 := row_chg hZ4 hCc (by omega)
   have hS5 := hS4.apart hCc (fun k hk e => (hS4.2 k hk).2.1 e)
   have hT5 := hT6.apart hCc (fun k hk e => (hT6.2 k hk).2.1 e)
   have hP7 := hP6.chg hCc (by omega)
   have hC10 := hC9.trans hCc (fun k hk hl => by omega)
   simp only [List.setIfInBounds_toArray, List.set_cons_zero, List.set_cons_succ] at hX5
   clear hX4 hZ4 hS4 hT6 hP6 hC9 hcX2 hfX2 hCc
   generalize w6.setCell ⟨X, 1, none⟩ (.slice A3 L3 c3) = w7 at hX5 hZ5 hS5 hT5 hP7 hC10 ⊢
   have z1 := row_cells hX5 0
   have hX5l := row_lt hX5
   refine wp_region_any (by kernel_rfl) ?_
   change wpAny _ _ _ _ _ _ _ (World.drew _)
   refine wpAny_take (i := 0) (v := .pointer (some ⟨X, 0, none⟩)) rfl (by kernel_rfl) (by kernel_rfl) (by kernel_rfl) (fun _ _ _ h => h) (Or.inl ⟨by rfl, by intro w; go_simp⟩) ?_
   refine wpAny_take (i := 2) (v := .pointer (some ⟨g, 0, none⟩)) rfl (by kernel_rfl) (by kernel_rfl) (by kernel_rfl) (fun _ _ _ h => h) (Or.inl ⟨by rfl, by intro w; go_simp⟩) ?_
   simp only [Act.put, List.setIfInBounds_toArray, List.set_cons_zero, List.set_cons_succ]
   refine wpAny_load_ahead (fun w' => w'.cell? ⟨X, 0, none⟩ = some (.slice A L c)) (i := 1) (c := 3) (c2 := 4) (.slice A L c) rfl rfl rfl (by decide) (by decide) (by kernel_rfl) (by kernel_rfl) (by kernel_rfl) (fun _ _ _ h => h) (by kernel_rfl) (by kernel_rfl) (by kernel_rfl) (by kernel_rfl) (by kernel_rfl) (Or.inl ⟨by rfl, by intro w hw; go_simp⟩) z1 ?_
   simp only [Act.put, List.setIfInBounds_toArray, List.set_cons_zero, List.set_cons_succ]
   refine wpOp_step rfl (fun K hK => ?_)
   go_simp
   refine Calls.mono (hc g s b' _ (hP7.drewN 1) hs (by omega)) ?_
   rintro e w8 hp
   rcases ppost_cases hp with ⟨x, r2, v, hXx, rfl, ⟨cs1, rfl, hcs⟩, hP8, hC11⟩ | ⟨l, c, k, hXx, hk, hl, rfl, hC11⟩
   rotate_left
   ·exact ⟨rfl, by rw [HR2.out, listF_eq, hXx]; exact ⟨k, hk, hl, rfl, (hC10.drewN 1).trans hC11 (fun _ h _ => h)⟩⟩
   clear hp
   have hr2 := hle _ _ _ hXx
   have HR3 : Hid (R = listRest pipe fn (ps ++ [x]) (os ++ [sg]) r2) := Lib.hid (by rw [HR2.out, listF_eq, hXx]; rfl)
   have z2 := hC11.cell z1 (by simp; omega)
   obtain ⟨nb2, A4, n4, c4, rfl⟩ := pip_form hcs
   refine hK _ _ ⟨z2, ?_⟩
   clear hK K
   refine wpOp_step rfl (fun K hK => ?_)
   go_simp
   refine hK _ _ ⟨by rw [World.cell?_alloc_some _ _ _ (by rw [z2]; rfl)]; exact z2, ?_⟩
   clear hK K
   refine wpAny_tail 5 _ rfl (by kernel_rfl) ?_
   change wpList _ _ _ [_, _, _] _ _
   have hX6 := row_chg (B := (· = g)) (w := w7.drew) hX5 hC11 (by omega)
   have hZ6 := row_chg (B := (· = g)) (w := w7.drew) hZ5 hC11 (by omega)
   have hS6 := (hS5.drew 1).stay hC11 (fun k h1 h2 h3 e => by omega)
   have hT7 := (hT5.drew 1).stay hC11 (fun k h1 h2 h3 e => by omega)
   have hC12 := (hC10.drewN 1).trans hC11 (fun _ h _ => h)
   have hN : w7.heap.size ≤ w8.heap.size := hC11.size
   have hSl : ∀ k, S k → k < w7.heap.size := hS5.lt
   have hTl : ∀ k, T6 k → k < w7.heap.size := hT5.lt
   have HCS := Lib.hid hcs
   clear hcs hXx HR2 hX5 hZ5 hS5 hT5 hC10 hC11 hP7 z1 z2
   go_wp2_with (at_builtin; refine row_append w.heap.size X S w7.heap.size rfl _ _ _ _ _ 2 32 rfl Tryz.underlying36 info_Pipe rfl (by decide) (by decide) (.slice A L c) (Pip.ds ps) x.d _ rfl (by simp [Act.eval]) HCS.out rfl hN (by omega) (by omega) hS6 hSl (by rw [Pip.ds_map, List.length_map]; omega) ?_)
   intro A5 c5 w9 S9 hS9 hSS hC13
   have e3 : (Pip.ds ps).length + 1 = (ps ++ [x]).length := by rw [Pip.ds_map]; simp
   have e4 : Pip.ds ps ++ [x.d] = Pip.ds (ps ++ [x]) := by rw [Pip.ds_map, Pip.ds_map]; simp
   rw [e3, e4] at hS9
   rw [e3]
   generalize hL5 : (ps ++ [x]).length = L5 at hS9 ⊢
   have hLk5 : L5 + b'.length ≤ 8193 := by rw [← hL5, List.length_append, List.length_singleton]; omega
   have hST9 : ∀ k, S9 k → ¬ T6 k := fun k hk hk2 => (hSS k hk).elim (fun h => hST6 k h hk2) (fun h => by have := hTl k hk2; omega)
   have hX7 := row_chg hX6 hC13 (fun h => (hS6.2 X h).2.1 rfl)
   have hZ7 := row_chg hZ6 hC13 (fun h => by have := (hS6.2 _ h).1; omega)
   have hT8 := hT7.apart hC13 (fun k hk hk2 => hST6 k hk2 hk)
   have hP9 := hP8.chg hC13 (fun h => by have := (hS6.2 _ h).1; omega)
   have hC14 := hC12.trans hC13 (fun k hk hl => by have := (hS6.2 _ hk).1; omega)
   have hcX2 := row_cells hX7
   have hfX2 := row_free hX7
   clear hX6 hZ6 hS6 hT7 hC12 hC13 hP8 hSS hST6 HCS hSl hTl hN hX5l e1 e2 e3 e4
   go_wp2
   have hX8 := row_set hX7 0 (.slice A5 L5 c5)
   have hCc := setCell_chg w9 X 0 (.slice A5 L5 c5)
   have hZ8 := row_chg hZ7 hCc (by omega)
   have hS10 := hS9.apart hCc (fun k hk e => (hS9.2 k hk).2.1 e)
   have hT10 := hT8.apart hCc (fun k hk e => (hT8.2 k hk).2.1 e)
   have hP10 := hP9.chg hCc (by omega)
   have hC15 := hC14.trans hCc (fun k hk hl => by omega)
   go_roundg b'.length
   case measure => omega
   case rel => exact ⟨_, _, _, _, _, _, _, _, _, _, _, _, hL5, hL3, HR3, hP10, by omega, hr2, by omega, hLk5, hLk3, hX8, hS10, hT10, hST9, hC15, hZ8⟩
def LstSaid (list : Bytes → Rs Lst) (d : Nat) (m : Nat) : Prop := ∀ (g : Nat) (s : ByteArray) (r : Bytes) (w : World), ParsR w g s r d → s.size ≤ 8192 → r.length ≤ m →
 Calls Tryz.prog 55 #[.pointer (some ⟨g, 0, none⟩)] w (PPost w g s d (list r) (isLst w))
def listsRest (list : Bytes → Rs Lst) (n : Nat) (ls : List Lst) (r1 : Bytes) : Rs (List Lst) :=
 if sgn r1 == [59] then listsF list n false ls (lines ((blanks r1).drop 1))
 else if sgn r1 == [10] then listsF list n false ls (lines (blanks r1))
 else if over (blanks r1) then listsF list n false ls (blanks (blanks r1))
 else failS (blanks (blanks r1)) 61
theorem listsF_go (list : Bytes → Rs Lst) (n : Nat) (first : Bool) (ls : List Lst) (r : Bytes) (h : (first || !over r) = true) : listsF list (n + 1) first ls r = (list (if first then r else blanks r)).bind fun x r1 => listsRest list n (ls ++ [x]) r1 := by rw [listsF, if_pos h]; rfl
theorem listsF_stop (list : Bytes → Rs Lst) (n : Nat) (first : Bool) (ls : List Lst) (r : Bytes) (h : (first || !over r) = false) : listsF list (n + 1) first ls r = .ok ls (blanks r) := by rw [listsF, if_neg (by rw [h]; simp)]
def ListsRel (list : Bytes → Rs Lst) (w : World) (g : Nat) (s : ByteArray) (d : Int) (R : Rs (List Lst)) (m : Nat) (k : Nat) (v fv : Value) (wr : World) : Prop :=
 ∃ (ls : List Lst) (r : Bytes) (first : Bool) (A : Option Addr) (c L : Nat), v = .slice A L c ∧ fv = .bool first ∧ ls.length = L ∧ Hid (R = listsF list k first ls r) ∧ ParsR wr g s r d ∧ 0 < k ∧ ((first || !over r) = true → r.length < k ∧ L + r.length ≤ 8193) ∧ r.length ≤ m ∧
  Own wr (fun j => w.heap.size ≤ j) 39 2 (.slice A L c) (Lst.ds ls) ∧ Chg (· = g) w wr
theorem over_idem0 (r : Bytes) : over (blanks r) = over r := by unfold over; rw [blanks_idem, peek_idem, sgn_idem]
set_option maxRecDepth 100000 in
set_option maxHeartbeats 4000000 in
theorem lists_calls (list : Bytes → Rs Lst) (d : Nat) (hd : d ≤ 20) (m : Nat) (hc0 : d + 1 ≤ 16 → LstSaid list (d + 1) m) (hle : ∀ r c r1, list r = .ok c r1 → r1.length ≤ r.length ∧ 1 ≤ r.length) (n : Nat) (g : Nat) (s : ByteArray) (r : Bytes) (w : World) (h : ParsR w g s r d) (hs : s.size ≤ 8192) (hm : r.length ≤ m) (hn : r.length ≤ n) :
  Calls Tryz.prog 35 #[.pointer (some ⟨g, 0, none⟩)] w (PPost w g s d (if d + 1 > 16 then failS r 63 else listsF list (n + 1) true [] (lines r)) (isLists w)) := by
 have hgl := h.lt
 have hrl := h.len
 generalize hR : (if d + 1 > 16 then failS r 63 else listsF list (n + 1) true [] (lines r)) = R
 have HR := Lib.hid hR.symm; clear hR
 obtain ⟨a, ha, hre, hl, hA⟩ := h.pos
 obtain ⟨h0, h1, h2, f1, f2, _⟩ := ParsAt.cells hA
 have hA1 := hA.deep' ((d : Int) + 1)
 have r0 : IntKind.i64.wrap ((d : Int) + 1) = (d : Int) + 1 := IntWalk.i64_in _ (by omega)
 have hC1 : Chg (· = g) w (w.setCell ⟨g, 2, none⟩ (.int .i64 ((d : Int) + 1))) := setCell_chg w g 2 _
 go_enter Tryz.func35, Tryz.ntmps35
 by_cases h16 : d + 1 > 16
 ·have q1 : (16 : Int) < (d : Int) + 1 := by omega
  have HR2 : Hid (R = failS r 63) := Lib.hid (by rw [HR.out, if_pos h16])
  clear HR h16
  go_wp2_with fail
  refine Calls.mono (fail_here g s r ((d : Int) + 1) 63 w _ a hre ha hA1 hC1 (isLists w)) ?_
  rintro e w4 ⟨⟨c4, rfl⟩, hpost, rfl⟩
  go_wp2
  rw [HR2.out]
  exact ⟨rfl, fail_deep _ hpost⟩
 ·have q1 : decide ((16 : Int) < (d : Int) + 1) = false := by rw [decide_eq_false_iff_not]; omega
  have HR2 : Hid (R = listsF list (n + 1) true [] (lines r)) := Lib.hid (by rw [HR.out, if_neg h16])
  have hc := hc0 (by omega)
  clear HR h16
  have hP1 : ParsR (w.setCell ⟨g, 2, none⟩ (.int .i64 ((d : Int) + 1))) g s r ((d : Int) + 1) := ⟨a, ha, hre, hA1⟩
  go_wp2_with fail
  refine Calls.mono (lines_calls g s r _ _ hP1 hs) ?_
  rintro e w1 ⟨rfl, hP2, hC2⟩
  have hC3 := hC1.trans hC2 (fun _ h _ => h)
  have hln := lines_le r
  clear h0 h1 h2 f1 f2 hA hA1 hC1 hC2 hP1 q1 hre
  generalize lines r = b at *
  go_wp2
  go_loopg [3, 4] (n + 1) (fun k v fv wr => ListsRel list w g s ((d : Int) + 1) R m k v fv wr)
  case atStart => exact ⟨[], b, true, none, 0, 0, rfl, rfl, rfl, HR2, hP2, by omega, fun _ => by omega, by omega, Own.nil _ _ _ _, hC3⟩
  case round =>
   clear HR2 hP2 hC3 hln hl
   obtain ⟨ls, r, first, A, c, L, rfl, rfl, hL, HR, hP, hk, hgo, hm1, hO, hC⟩ := hrel
   cases first
   case true =>
    obtain ⟨hk1, hk2⟩ := hgo rfl
    obtain ⟨f, rfl⟩ : ∃ f, gk = f + 1 := ⟨gk - 1, by omega⟩
    have HR2 : Hid (R = (list r).bind fun x r1 => listsRest list f (ls ++ [x]) r1) := Lib.hid (by rw [HR.out, listsF_go _ _ _ _ _ rfl]; rfl)
    clear HR hgo hk
    have hk1 : r.length ≤ f := by omega
    go_wp2_with fail
    refine Calls.mono (hc g s r _ hP hs hm1) ?_
    rintro e w1 hp
    rcases ppost_cases hp with ⟨x, r1, v, hX, rfl, ⟨cs1, rfl, hcs⟩, hP1, hC1⟩ | ⟨l, c, k, hX, hk, hl, rfl, hC1⟩
    rotate_left
    ·go_wp2
     exact ⟨rfl, by rw [HR2.out, hX]; exact ⟨k, hk, hl, rfl, hC.trans hC1 (fun _ h _ => h)⟩⟩
    clear hp
    obtain ⟨hr1, hr0⟩ := hle _ _ _ hX
    have HR3 : Hid (R = listsRest list f (ls ++ [x]) r1) := Lib.hid (by rw [HR2.out, hX]; rfl)
    obtain ⟨B1, n1, c1, B2, n2, c2, rfl⟩ := lst_form hcs
    have HCS := Lib.hid hcs
    have hO1 := hO.stay hC1 (fun k hk e => by omega)
    have hC2 := hC.trans hC1 (fun _ h _ => h)
    have hvN : ∀ j, (Value.slice A L c).ownBlock = some j → j < wr.heap.size := fun j hj => hO.lt hj
    have hN := hC1.size
    have hZ0 : w.heap.size ≤ wr.heap.size := hC.size
    clear hcs hX HR2 hO hC hP hC1
    go_wp2_with (at_builtin; refine own_append2 (fun j => w.heap.size ≤ j) wr.heap.size rfl _ _ _ _ _ 2 48 rfl Tryz.underlying22 info_List rfl (by decide) (by decide) (.slice A L c) (Lst.ds ls) x.d _ rfl (by simp [Act.eval]) HCS.out rfl (fun k hk => by omega) hN hvN hO1 (by rw [Lst.ds_map, List.length_map]; omega) ?_)
    intro A3 c3 w3 hO3 hC3'
    have hC3 := hC3'.mono (B' := fun j => w.heap.size ≤ j) (fun k hk _ => hO1.block hk.symm)
    have e1 : (Lst.ds ls).length + 1 = (ls ++ [x]).length := by rw [Lst.ds_map]; simp
    have e2 : Lst.ds ls ++ [x.d] = Lst.ds (ls ++ [x]) := by rw [Lst.ds_map, Lst.ds_map]; simp
    rw [e1, e2] at hO3
    rw [e1]
    generalize hL3 : (ls ++ [x]).length = L3 at hO3 ⊢
    have hLk3 : L3 + r.length ≤ 8194 := by rw [← hL3, List.length_append, List.length_singleton]; omega
    have hP3 := hP1.chg hC3 (by omega)
    have hC4 := hC2.trans hC3 (fun k hk hl => by omega)
    have hSg := sign_calls g s r1 _ w3 hP3 hs
    have hbl := blanks_le r1
    have hsl := sgn_le r1
    have e59 : ((bstr (sgn r1)).toList == [59]) = (sgn r1 == [59]) := by rw [ByteArray.toList_eq, bstr_toList]
    have e10 : ((bstr (sgn r1)).toList == [10]) = (sgn r1 == [10]) := by rw [ByteArray.toList_eq, bstr_toList]
    have hlt10 : (sgn r1 == [10]) = true → (lines (blanks r1)).length < r1.length := by
     intro h
     have := lines_lt (r := blanks r1) (by rw [sgn_idem]; simpa using h)
     omega
    have hlt59 : (sgn r1 == [59]) = true → (lines ((blanks r1).drop 1)).length < r1.length ∧ 1 ≤ (blanks r1).length := by
     intro h
     have h1 := sgn_len h
     have h2 := lines_le ((blanks r1).drop 1)
     simp only [List.length_drop, List.length_cons, List.length_nil] at h2 h1
     omega
    rw [listsRest] at HR3
    clear hO1 hC2 hP1 HCS hN hC3 hC3' e1 e2 hvN
    go_wp2_with fail
    refine Calls.mono hSg ?_
    rintro e w4 ⟨rfl, hP4, hC5⟩
    have hO4 := hO3.stay hC5 (fun k hk e => by omega)
    have hC6 := hC4.trans hC5 (fun _ h _ => h)
    clear hSg hP3 hC4 hC5 hO3
    cases q59 : sgn r1 == [59]
    case true =>
     have HR4 : Hid (R = listsF list f false (ls ++ [x]) (lines ((blanks r1).drop 1))) := Lib.hid (by rw [HR3.out, if_pos q59])
     obtain ⟨hlt, hb1⟩ := hlt59 q59
     rw [q59] at e59
     obtain ⟨a, ha, hbe, hl, hA⟩ := hP4.pos
     obtain ⟨h0, h1, h2', f1, _, hgl4⟩ := ParsAt.cells hA
     have hb2 : a + 1 ≤ s.size := by omega
     have HP := Lib.hid (fun v hv => ParsR.at' hA (a + 1) hb2 v hv)
     have HD : Hid (s.data.toList.drop (a + 1) = (blanks r1).drop 1) := Lib.hid (by rw [hbe, List.drop_drop])
     have r2 : IntKind.i64.wrap ((a : Int) + 1) = (a : Int) + 1 := IntWalk.i64_in _ (by omega)
     clear HR3 q59 hlt59 hlt10 e10 hbe hl hP4 hA hbl hsl r0
     go_wp2_with fail
     refine Calls.mono (lines_calls g s (s.data.toList.drop (a + 1)) _ _ (HP.out _ (by go_num)) hs) ?_
     rintro e w5 ⟨rfl, hP5, hC7⟩
     rw [HD.out] at hP5
     have hCs := setCell_chg w4 g 1 (.int .i64 ((a : Int) + 1))
     have hO5 := (hO4.stay hCs (fun k hk e => by omega)).stay hC7 (fun k hk e => by omega)
     have hC8 := (hC6.trans hCs (fun _ h _ => h)).trans hC7 (fun _ h _ => h)
     clear hO4 hC6 hC7 hCs HP HD h0 h1 h2' f1 r2 e59
     go_wp2
     go_roundg f
     case measure => omega
     case rel => exact ⟨_, _, false, _, _, _, rfl, rfl, hL3, HR4, hP5, by omega, fun _ => by omega, by omega, hO5, hC8⟩
    case false =>
     rw [q59] at e59
     cases q10 : sgn r1 == [10]
     case true =>
      have HR4 : Hid (R = listsF list f false (ls ++ [x]) (lines (blanks r1))) := Lib.hid (by rw [HR3.out, q59, q10]; rfl)
      have hlt := hlt10 q10
      rw [q10] at e10
      clear HR3 q59 q10 hlt59 hlt10 hbl hsl
      go_wp2_with fail
      refine Calls.mono (lines_calls g s (blanks r1) _ _ hP4 hs) ?_
      rintro e w5 ⟨rfl, hP5, hC7⟩
      have hO5 := hO4.stay hC7 (fun k hk e => by omega)
      have hC8 := hC6.trans hC7 (fun _ h _ => h)
      clear hO4 hC6 hC7 hP4 e59 e10
      go_wp2
      go_roundg f
      case measure => omega
      case rel => exact ⟨_, _, false, _, _, _, rfl, rfl, hL3, HR4, hP5, by omega, fun _ => by omega, by omega, hO5, hC8⟩
     case false =>
      rw [q10] at e10
      have hOv := over_calls g s (blanks r1) _ w4 hP4 hs
      have hbl2 := blanks_le (blanks r1)
      cases hov : over (blanks r1)
      case true =>
       have HR4 : Hid (R = listsF list f false (ls ++ [x]) (blanks (blanks r1))) := Lib.hid (by rw [HR3.out, q59, q10, hov]; rfl)
       have hov2 : over (blanks (blanks r1)) = true := by rw [over_idem0]; exact hov
       rw [hov] at hOv
       clear HR3 q59 q10 hlt59 hlt10 hsl hov hP4
       go_wp2_with fail
       refine Calls.mono hOv ?_
       rintro e w5 ⟨rfl, hP5, hC7⟩
       have hO5 := hO4.stay hC7 (fun k hk e => by omega)
       have hC8 := hC6.trans hC7 (fun _ h _ => h)
       clear hO4 hC6 hC7 e59 e10 hOv
       go_wp2
       go_roundg f
       case measure => omega
       case rel => exact ⟨_, _, false, _, _, _, rfl, rfl, hL3, HR4, hP5, by omega, fun h => absurd h (by rw [hov2]; simp), by omega, hO5, hC8⟩
      case false =>
       have HR4 : Hid (R = failS (blanks (blanks r1)) 61) := Lib.hid (by rw [HR3.out, q59, q10, hov]; rfl)
       rw [hov] at hOv
       clear HR3 q59 q10 hlt59 hlt10 hsl hov hP4
       go_wp2_with fail
       refine Calls.mono hOv ?_
       rintro e w5 ⟨rfl, hP5, hC7⟩
       have hC8 := hC6.trans hC7 (fun _ h _ => h)
       obtain ⟨a, ha, hbe, hl, hA⟩ := hP5.pos
       obtain ⟨h0, h1, h2', f1, _, hgl4⟩ := ParsAt.cells hA
       have HB := Lib.hid hbe
       clear hO4 hC6 hC7 e59 e10 hOv hbe hl hP5
       go_wp2_with fail
       refine Calls.mono (fail_here g s _ _ 61 w w5 a HB.out ha hA hC8 (isLists w)) ?_
       rintro e w6 ⟨⟨c6, rfl⟩, hpost, rfl⟩
       go_wp2
       rw [HR4.out]
       exact ⟨rfl, fail_deep _ hpost⟩
   case false =>
    have hOv := over_calls g s r _ wr hP hs
    have hbl := blanks_le r
    cases hov : over r
    case true =>
     obtain ⟨f, rfl⟩ : ∃ f, gk = f + 1 := ⟨gk - 1, by omega⟩
     have HR2 : Hid (R = .ok ls (blanks r)) := Lib.hid (by rw [HR.out, listsF_stop _ _ _ _ _ (by rw [hov]; rfl)])
     rw [hov] at hOv
     clear HR hov hgo
     go_wp2_with fail
     refine Calls.mono hOv ?_
     rintro e w4 ⟨rfl, hP4, hC4⟩
     obtain ⟨a4, ha4, hre, hl, hA⟩ := hP4.pos
     obtain ⟨h0, h1, h2, f1, f2, _⟩ := ParsAt.cells hA
     have hA1 := hA.deep' (d : Int)
     have r1 : IntKind.i64.wrap ((d : Int) + 1 - 1) = (d : Int) := by rw [show (d : Int) + 1 - 1 = d by omega]; exact IntWalk.i64_in _ (by omega)
     have hC5 := (hC.trans hC4 (fun _ h _ => h)).setCell (p := ⟨g, 2, none⟩) (fun _ => rfl) (.int .i64 (d : Int))
     have hO5 := (hO.stay hC4 (fun k hk e => by omega)).stay (setCell_chg w4 g 2 (.int .i64 (d : Int))) (fun k hk e => by omega)
     have HB := Lib.hid hre
     clear hre hl hP4 hC4 hO hC hOv h0 h1 r0 hA
     go_wp2
     go_ret
     rw [HR2.out]
     refine ⟨.slice A L c, rfl, ⟨A, c, by rw [hL], hO5.rep⟩, ⟨a4, ha4, HB.out, hA1⟩, hC5⟩
    case false =>
     obtain ⟨hk1, hk2⟩ := hgo (by rw [hov]; rfl)
     obtain ⟨f, rfl⟩ : ∃ f, gk = f + 1 := ⟨gk - 1, by omega⟩
     have HR2 : Hid (R = (list (blanks r)).bind fun x r1 => listsRest list f (ls ++ [x]) r1) := Lib.hid (by rw [HR.out, listsF_go _ _ _ _ _ (by rw [hov]; rfl)]; rfl)
     rw [hov] at hOv
     clear HR hov hgo hk
     go_wp2_with fail
     refine Calls.mono hOv ?_
     rintro e w4 ⟨rfl, hP4, hC4⟩
     have hO4 := hO.stay hC4 (fun k hk e => by omega)
     have hC5 := hC.trans hC4 (fun _ h _ => h)
     clear hO hC hOv hP
     have hO := hO4
     have hC := hC5
     have hP := hP4
     have hk1 : (blanks r).length ≤ f := by omega
     have hk2 : L + (blanks r).length ≤ 8193 := by omega
     have hm1 : (blanks r).length ≤ m := by omega
     clear hO4 hC5 hP4 hbl hC4
     generalize blanks r = r at *
     generalize w4 = wr at *
     go_wp2_with fail
     refine Calls.mono (hc g s r _ hP hs hm1) ?_
     rintro e w1 hp
     rcases ppost_cases hp with ⟨x, r1, v, hX, rfl, ⟨cs1, rfl, hcs⟩, hP1, hC1⟩ | ⟨l, c, k, hX, hk, hl, rfl, hC1⟩
     rotate_left
     ·go_wp2
      exact ⟨rfl, by rw [HR2.out, hX]; exact ⟨k, hk, hl, rfl, hC.trans hC1 (fun _ h _ => h)⟩⟩
     clear hp
     obtain ⟨hr1, hr0⟩ := hle _ _ _ hX
     have HR3 : Hid (R = listsRest list f (ls ++ [x]) r1) := Lib.hid (by rw [HR2.out, hX]; rfl)
     obtain ⟨B1, n1, c1, B2, n2, c2, rfl⟩ := lst_form hcs
     have HCS := Lib.hid hcs
     have hO1 := hO.stay hC1 (fun k hk e => by omega)
     have hC2 := hC.trans hC1 (fun _ h _ => h)
     have hvN : ∀ j, (Value.slice A L c).ownBlock = some j → j < wr.heap.size := fun j hj => hO.lt hj
     have hN := hC1.size
     have hZ0 : w.heap.size ≤ wr.heap.size := hC.size
     clear hcs hX HR2 hO hC hP hC1
     go_wp2_with (at_builtin; refine own_append2 (fun j => w.heap.size ≤ j) wr.heap.size rfl _ _ _ _ _ 2 48 rfl Tryz.underlying22 info_List rfl (by decide) (by decide) (.slice A L c) (Lst.ds ls) x.d _ rfl (by simp [Act.eval]) HCS.out rfl (fun k hk => by omega) hN hvN hO1 (by rw [Lst.ds_map, List.length_map]; omega) ?_)
     intro A3 c3 w3 hO3 hC3'
     have hC3 := hC3'.mono (B' := fun j => w.heap.size ≤ j) (fun k hk _ => hO1.block hk.symm)
     have e1 : (Lst.ds ls).length + 1 = (ls ++ [x]).length := by rw [Lst.ds_map]; simp
     have e2 : Lst.ds ls ++ [x.d] = Lst.ds (ls ++ [x]) := by rw [Lst.ds_map, Lst.ds_map]; simp
     rw [e1, e2] at hO3
     rw [e1]
     generalize hL3 : (ls ++ [x]).length = L3 at hO3 ⊢
     have hLk3 : L3 + r.length ≤ 8194 := by rw [← hL3, List.length_append, List.length_singleton]; omega
     have hP3 := hP1.chg hC3 (by omega)
     have hC4 := hC2.trans hC3 (fun k hk hl => by omega)
     have hSg := sign_calls g s r1 _ w3 hP3 hs
     have hbl := blanks_le r1
     have hsl := sgn_le r1
     have e59 : ((bstr (sgn r1)).toList == [59]) = (sgn r1 == [59]) := by rw [ByteArray.toList_eq, bstr_toList]
     have e10 : ((bstr (sgn r1)).toList == [10]) = (sgn r1 == [10]) := by rw [ByteArray.toList_eq, bstr_toList]
     have hlt10 : (sgn r1 == [10]) = true → (lines (blanks r1)).length < r1.length := by
      intro h
      have := lines_lt (r := blanks r1) (by rw [sgn_idem]; simpa using h)
      omega
     have hlt59 : (sgn r1 == [59]) = true → (lines ((blanks r1).drop 1)).length < r1.length ∧ 1 ≤ (blanks r1).length := by
      intro h
      have h1 := sgn_len h
      have h2 := lines_le ((blanks r1).drop 1)
      simp only [List.length_drop, List.length_cons, List.length_nil] at h2 h1
      omega
     rw [listsRest] at HR3
     clear hO1 hC2 hP1 HCS hN hC3 hC3' e1 e2 hvN
     go_wp2_with fail
     refine Calls.mono hSg ?_
     rintro e w4 ⟨rfl, hP4, hC5⟩
     have hO4 := hO3.stay hC5 (fun k hk e => by omega)
     have hC6 := hC4.trans hC5 (fun _ h _ => h)
     clear hSg hP3 hC4 hC5 hO3
     cases q59 : sgn r1 == [59]
     case true =>
      have HR4 : Hid (R = listsF list f false (ls ++ [x]) (lines ((blanks r1).drop 1))) := Lib.hid (by rw [HR3.out, if_pos q59])
      obtain ⟨hlt, hb1⟩ := hlt59 q59
      rw [q59] at e59
      obtain ⟨a, ha, hbe, hl, hA⟩ := hP4.pos
      obtain ⟨h0, h1, h2', f1, _, hgl4⟩ := ParsAt.cells hA
      have hb2 : a + 1 ≤ s.size := by omega
      have HP := Lib.hid (fun v hv => ParsR.at' hA (a + 1) hb2 v hv)
      have HD : Hid (s.data.toList.drop (a + 1) = (blanks r1).drop 1) := Lib.hid (by rw [hbe, List.drop_drop])
      have r2 : IntKind.i64.wrap ((a : Int) + 1) = (a : Int) + 1 := IntWalk.i64_in _ (by omega)
      clear HR3 q59 hlt59 hlt10 e10 hbe hl hP4 hA hbl hsl r0
      go_wp2_with fail
      refine Calls.mono (lines_calls g s (s.data.toList.drop (a + 1)) _ _ (HP.out _ (by go_num)) hs) ?_
      rintro e w5 ⟨rfl, hP5, hC7⟩
      rw [HD.out] at hP5
      have hCs := setCell_chg w4 g 1 (.int .i64 ((a : Int) + 1))
      have hO5 := (hO4.stay hCs (fun k hk e => by omega)).stay hC7 (fun k hk e => by omega)
      have hC8 := (hC6.trans hCs (fun _ h _ => h)).trans hC7 (fun _ h _ => h)
      clear hO4 hC6 hC7 hCs HP HD h0 h1 h2' f1 r2 e59
      go_wp2
      go_roundg f
      case measure => omega
      case rel => exact ⟨_, _, false, _, _, _, rfl, rfl, hL3, HR4, hP5, by omega, fun _ => by omega, by omega, hO5, hC8⟩
     case false =>
      rw [q59] at e59
      cases q10 : sgn r1 == [10]
      case true =>
       have HR4 : Hid (R = listsF list f false (ls ++ [x]) (lines (blanks r1))) := Lib.hid (by rw [HR3.out, q59, q10]; rfl)
       have hlt := hlt10 q10
       rw [q10] at e10
       clear HR3 q59 q10 hlt59 hlt10 hbl hsl
       go_wp2_with fail
       refine Calls.mono (lines_calls g s (blanks r1) _ _ hP4 hs) ?_
       rintro e w5 ⟨rfl, hP5, hC7⟩
       have hO5 := hO4.stay hC7 (fun k hk e => by omega)
       have hC8 := hC6.trans hC7 (fun _ h _ => h)
       clear hO4 hC6 hC7 hP4 e59 e10
       go_wp2
       go_roundg f
       case measure => omega
       case rel => exact ⟨_, _, false, _, _, _, rfl, rfl, hL3, HR4, hP5, by omega, fun _ => by omega, by omega, hO5, hC8⟩
      case false =>
       rw [q10] at e10
       have hOv := over_calls g s (blanks r1) _ w4 hP4 hs
       have hbl2 := blanks_le (blanks r1)
       cases hov : over (blanks r1)
       case true =>
        have HR4 : Hid (R = listsF list f false (ls ++ [x]) (blanks (blanks r1))) := Lib.hid (by rw [HR3.out, q59, q10, hov]; rfl)
        have hov2 : over (blanks (blanks r1)) = true := by rw [over_idem0]; exact hov
        rw [hov] at hOv
        clear HR3 q59 q10 hlt59 hlt10 hsl hov hP4
        go_wp2_with fail
        refine Calls.mono hOv ?_
        rintro e w5 ⟨rfl, hP5, hC7⟩
        have hO5 := hO4.stay hC7 (fun k hk e => by omega)
        have hC8 := hC6.trans hC7 (fun _ h _ => h)
        clear hO4 hC6 hC7 e59 e10 hOv
        go_wp2
        go_roundg f
        case measure => omega
        case rel => exact ⟨_, _, false, _, _, _, rfl, rfl, hL3, HR4, hP5, by omega, fun h => absurd h (by rw [hov2]; simp), by omega, hO5, hC8⟩
       case false =>
        have HR4 : Hid (R = failS (blanks (blanks r1)) 61) := Lib.hid (by rw [HR3.out, q59, q10, hov]; rfl)
        rw [hov] at hOv
        clear HR3 q59 q10 hlt59 hlt10 hsl hov hP4
        go_wp2_with fail
        refine Calls.mono hOv ?_
        rintro e w5 ⟨rfl, hP5, hC7⟩
        have hC8 := hC6.trans hC7 (fun _ h _ => h)
        obtain ⟨a, ha, hbe, hl, hA⟩ := hP5.pos
        obtain ⟨h0, h1, h2', f1, _, hgl4⟩ := ParsAt.cells hA
        have HB := Lib.hid hbe
        clear hO4 hC6 hC7 e59 e10 hOv hbe hl hP5
        go_wp2_with fail
        refine Calls.mono (fail_here g s _ _ 61 w w5 a HB.out ha hA hC8 (isLists w)) ?_
        rintro e w6 ⟨⟨c6, rfl⟩, hpost, rfl⟩
        go_wp2
        rw [HR4.out]
        exact ⟨rfl, fail_deep _ hpost⟩
def WdSaid (wd : Bytes → Rs (List Part)) (d : Nat) (m : Nat) : Prop := ∀ (g : Nat) (s : ByteArray) (r : Bytes) (w : World), ParsR w g s r d → s.size ≤ 8192 → r.length ≤ m →
 Calls Tryz.prog 123 #[.pointer (some ⟨g, 0, none⟩)] w (PPost w g s d (wd r) (isWord w))
def isRdr (w : World) (o : Option Rdr) (v : Value) (w' : World) : Prop := match o with
 | some x => ∃ cs, v = .tuple #[.agg cs.toArray, .bool true] ∧ Rep w' (fun k => w.heap.size ≤ k) x.d cs
 | none => v = .tuple #[.agg #[.int .i64 0, .string ⟨#[]⟩, .slice none 0 0], .bool false]
def hasFd (b : Bytes) : Bool := match b with
 | c :: d :: _ => digit c && (d == 60 || d == 62)
 | _ => false
theorem fdP_no {b : Bytes} (h : hasFd b = false) : fdP b = (-1, b) := by
 unfold fdP
 split
 ·rename_i c d r
  simp only [hasFd] at h
  rw [h]; rfl
 ·rfl
theorem fdP_yes {b : Bytes} (h : hasFd b = true) : ∃ c d r, b = c :: d :: r ∧ digit c = true ∧ fdP b = ((c.toNat : Int) - 48, d :: r) := by
 match b, h with
 | c :: d :: r, h =>
  simp only [hasFd] at h
  refine ⟨c, d, r, rfl, ?_, ?_⟩
  ·simp only [Bool.and_eq_true] at h; exact h.1
  ·simp only [fdP]; rw [h]; rfl
theorem redirP_K (wd : Bytes → Rs (List Part)) (r : Bytes) (fd : Int) (q : Bytes) (h : fdP (blanks r) = (fd, q)) : redirP wd r =
  if sgn q == [60] || sgn q == [60, 38] then (wd ((blanks q).drop (sgn q).length)).bind fun w r' => .ok (some ⟨max fd 0, sgn q, w⟩) r'
  else if sgn q == [62] || sgn q == [62, 62] || sgn q == [62, 38] then (wd ((blanks q).drop (sgn q).length)).bind fun w r' => .ok (some ⟨if fd < 0 then 1 else fd, sgn q, w⟩) r'
  else .ok none (blanks r) := by unfold redirP; rw [h]
set_option maxRecDepth 100000 in
set_option maxHeartbeats 4000000 in
theorem redir_calls (wd : Bytes → Rs (List Part)) (d : Nat) (m : Nat) (hc : WdSaid wd d m) (g : Nat) (s : ByteArray) (r : Bytes) (w : World) (h : ParsR w g s r d) (hs : s.size ≤ 8192) (hm : r.length ≤ m) :
  Calls Tryz.prog 100 #[.pointer (some ⟨g, 0, none⟩)] w (PPost w g s d (redirP wd r) (isRdr w)) := by
 have hgl := h.lt
 have hrl := h.len
 have hbl := blanks_le r
 have hK := fun fd q hh => redirP_K wd r fd q hh
 generalize redirP wd r = R at *
 go_enter Tryz.func100, Tryz.ntmps100
 have hC0 : Chg (· = g) w (w.alloc (.cells #[.int .i64 0, .string ⟨#[]⟩, .slice none 0 0] 75)) := (Chg.refl _ w).alloc _
 have hP0 := ParsR.chg (B := fun _ => False) h ((Chg.refl _ w).alloc (.cells #[.int .i64 0, .string ⟨#[]⟩, .slice none 0 0] 75)) (fun e => e)
 have hZ0 := row_new w (.cells #[.int .i64 0, .string ⟨#[]⟩, .slice none 0 0] 75)
 go_wp2_with fail
 refine Calls.mono (blanks_calls g s r d _ hP0 hs) ?_
 rintro e w1 ⟨rfl, hP1, hC1⟩
 have hZ1 := row_chg hZ0 hC1 (by omega)
 have hC2 := hC0.trans hC1 (fun _ h _ => h)
 have hs0 : w.heap.size < w1.heap.size := by have := hC1.size; simp at this; omega
 generalize blanks r = b at *
 obtain ⟨a, ha, hbe, hl, hA⟩ := hP1.pos
 obtain ⟨h0, h1, h2, f1, f2, _⟩ := ParsAt.cells hA
 have HK := Lib.hid hK; clear hK
 have HB := Lib.hid hbe
 have hfb : hasFd b = true ∨ hasFd b = false := by cases hasFd b <;> simp
 clear hP0 hZ0 hC0 hP1 hC1 hbe
 go_upto_region 4 with fail
 go_cut [61] (fun fv wx => fv = .bool (hasFd b) ∧ ∃ n, wx = (w1.alloc (.cells #[.int .i64 (-1), .string ⟨#[]⟩, .slice none 0 0] 75)).drewN n)
 case first =>
  have hb0 := HB.out
  have r0 : IntKind.i64.wrap ((a : Int) + 1) = (a : Int) + 1 := IntWalk.i64_in _ (by omega)
  have e0 : ((a : Int) + 1).toNat = a + 1 := by omega
  have p1 : (0 : Int) ≤ (a : Int) + 1 := by omega
  by_cases hlt : a + 1 < s.size
  ·rw [byte_drop s a (by omega), byte_drop s (a + 1) hlt] at hb0
   have hfd : hasFd b = (digit s[a] && (s[a + 1] == 60 || s[a + 1] == 62)) := by rw [hb0]; rfl
   have q1 : (a : Int) + 1 < (s.size : Int) := by omega
   have q2 : (a : Int) < (s.size : Int) := by omega
   have q3 : (0 : Int) ≤ (a : Int) := by omega
   have d60 : ((s[a + 1].toNat : Int) == 60) = (s[a + 1] == 60) := byte_eqn _ 60 (by decide)
   have d62 : ((s[a + 1].toNat : Int) == 62) = (s[a + 1] == 62) := byte_eqn _ 62 (by decide)
   have hdg : digitB (s[a].toNat : Int) = digit s[a] := rfl
   have HFD := Lib.hid hfd
   clear hfd hb0 hl hA HK hC2 hZ1 hfb
   cases g0 : digit s[a]
   case false =>
    rw [g0] at hdg
    have hr : hasFd b = false := by rw [HFD.out, g0]; rfl
    go_quiet ((go_at_call 125; exact (digit_calls _ _).mono (fun _ _ hh => ⟨hh.1, _, hh.2.symm⟩)))
    go_wp2_with fail
    go_meet
    exact ⟨by rw [hr], _, rfl⟩
   case true =>
    rw [g0] at hdg
    cases g1 : s[a + 1] == 60
    case true =>
     rw [g1] at d60
     have hr : hasFd b = true := by rw [HFD.out, g0, g1]; rfl
     go_quiet ((go_at_call 125; exact (digit_calls _ _).mono (fun _ _ hh => ⟨hh.1, _, hh.2.symm⟩)))
     go_wp2_with fail
     go_meet
     exact ⟨by rw [hr], _, rfl⟩
    case false =>
     rw [g1] at d60
     cases g2 : s[a + 1] == 62
     case true =>
      rw [g2] at d62
      have hr : hasFd b = true := by rw [HFD.out, g0, g1, g2]; rfl
      go_quiet ((go_at_call 125; exact (digit_calls _ _).mono (fun _ _ hh => ⟨hh.1, _, hh.2.symm⟩)))
      go_wp2_with fail
      go_meet
      exact ⟨by rw [hr], _, rfl⟩
     case false =>
      rw [g2] at d62
      have hr : hasFd b = false := by rw [HFD.out, g0, g1, g2]; rfl
      go_quiet ((go_at_call 125; exact (digit_calls _ _).mono (fun _ _ hh => ⟨hh.1, _, hh.2.symm⟩)))
      go_wp2_with fail
      go_meet
      exact ⟨by rw [hr], _, rfl⟩
  ·have q1 : decide ((a : Int) + 1 < (s.size : Int)) = false := by rw [decide_eq_false_iff_not]; omega
   have hr : hasFd b = false := by
    have : b.length < 2 := by omega
    match b, this with
    | [], _ => rfl
    | [c], _ => rfl
   clear hb0 hl hA HK hC2 hZ1 hfb
   go_quiet ((go_at_call 125; exact (digit_calls _ _).mono (fun _ _ hh => ⟨hh.1, _, hh.2.symm⟩)))
   go_wp2_with fail
   go_meet
   exact ⟨by rw [hr], _, rfl⟩
 case rest =>
  obtain ⟨rfl, n0, rfl⟩ := hcut
  have hX0 := row_new w1 (.cells #[.int .i64 (-1), .string ⟨#[]⟩, .slice none 0 0] 75)
  have hCa : Chg (fun _ => False) w1 ((w1.alloc (.cells #[.int .i64 (-1), .string ⟨#[]⟩, .slice none 0 0] 75)).drewN n0) := ((Chg.refl _ w1).alloc _).drewN _
  have hA1 := hA.chg hCa (fun e => e)
  have hZ2 := row_chg hZ1 hCa (fun e => e)
  have hC3 := hC2.trans hCa (fun _ h _ => h.elim)
  have hX1 : ((w1.alloc (.cells #[.int .i64 (-1), .string ⟨#[]⟩, .slice none 0 0] 75)).drewN n0).heap[w1.heap.size]? = _ := hX0
  have hg1 : g < w1.heap.size := by omega
  clear hX0 hCa hA hZ1 hC2 h0 h1 h2 f1 f2
  generalize (w1.alloc (.cells #[.int .i64 (-1), .string ⟨#[]⟩, .slice none 0 0] 75)).drewN n0 = W at *
  generalize w1.heap.size = X at *
  go_upto_if 61 with fail
  go_cut [] (fun wx => ∃ (fd : Int) (q : Bytes), wx.heap[X]? = some (.cells #[.int .i64 fd, .string ⟨#[]⟩, .slice none 0 0] 75) ∧ ParsR wx g s q d ∧ wx.heap[w.heap.size]? = some (.cells #[.int .i64 0, .string ⟨#[]⟩, .slice none 0 0] 75) ∧ Chg (· = g) w wx ∧
   Hid (R = if sgn q == [60] || sgn q == [60, 38] then (wd ((blanks q).drop (sgn q).length)).bind fun w r' => .ok (some ⟨max fd 0, sgn q, w⟩) r'
    else if sgn q == [62] || sgn q == [62, 62] || sgn q == [62, 38] then (wd ((blanks q).drop (sgn q).length)).bind fun w r' => .ok (some ⟨if fd < 0 then 1 else fd, sgn q, w⟩) r'
    else .ok none b) ∧ (fd = -1 ∨ 0 ≤ fd) ∧ q.length ≤ r.length)
  case first =>
   rcases hfb with hfb | hfb
   ·obtain ⟨c, d', t, hbe, hdg, hfd⟩ := fdP_yes hfb
    have hlb : b.length = t.length + 2 := by rw [hbe]; rfl
    have HKK := Lib.hid (HK.out _ _ hfd)
    have hb1 := hbe.symm.trans (HB.out.trans (byte_drop s a (by omega)))
    simp only [List.cons.injEq] at hb1
    obtain ⟨hc0, ht0⟩ := hb1
    have hdg2 : 48 ≤ (c.toNat : Int) ∧ (c.toNat : Int) ≤ 57 := by simpa [digit, digitB] using hdg
    have hsc : s[a] = c := hc0.symm
    have HT := Lib.hid ht0
    rw [hfb]
    obtain ⟨h0, h1, h2, f1, f2, _⟩ := ParsAt.cells hA1
    have hfX := row_free hX1
    have hcX := row_cells hX1
    have hle58 : (0 : Int) ≤ (c.toNat : Int) - 48 := by omega
    have hXg : X ≠ g := by omega
    have hZX : w.heap.size ≠ X := by omega
    have hZg : w.heap.size ≠ g := by omega
    have ha2 : a + 1 ≤ s.size := by omega
    have hXw : X < w.heap.size → X = g := fun h => by omega
    have hlq : (d' :: t).length ≤ r.length := by simp; omega
    have p0 : (0 : Int) ≤ (a : Int) := by omega
    have p1 : (a : Int) < (s.size : Int) := by omega
    have p2 : IntKind.u8.wrap ((c.toNat : Int) - 48) = (c.toNat : Int) - 48 := IntWalk.u8_in _ (by omega)
    have p3 : IntKind.i64.wrap ((c.toNat : Int) - 48) = (c.toNat : Int) - 48 := IntWalk.i64_in _ (by omega)
    have p4 : IntKind.i64.wrap ((a : Int) + 1) = (a : Int) + 1 := IntWalk.i64_in _ (by omega)
    clear hbe hdg hfd hc0 ht0 HK
    go_wp2
    refine still_tail2 12 (by kernel_rfl) (by kernel_rfl) ?_
    simp only [List.take_succ_cons, List.take_zero, List.drop_succ_cons, List.drop_zero]
    repeat still_step
    refine wpStill_nil ?_
    go_wp2_with fail
    have hX2 := row_far (row_set hX1 0 (.int .i64 ((c.toNat : Int) - 48))) (p := ⟨g, 1, none⟩) hXg (.int .i64 ((a : Int) + 1))
    have hZ3 := row_far (row_far hZ2 (p := ⟨X, 0, none⟩) hZX (.int .i64 ((c.toNat : Int) - 48))) (p := ⟨g, 1, none⟩) hZg (.int .i64 ((a : Int) + 1))
    have hA2 : ParsAt (W.setCell ⟨X, 0, none⟩ (.int .i64 ((c.toNat : Int) - 48))) g s a d := ParsAt.chg (B := (· = X)) hA1 (setCell_chg _ X 0 _) (Ne.symm hXg)
    have hA3 := hA2.at' ((a : Int) + 1)
    have hC4 : Chg (· = g) w ((W.setCell ⟨X, 0, none⟩ (.int .i64 ((c.toNat : Int) - 48))).setCell ⟨g, 1, none⟩ (.int .i64 ((a : Int) + 1))) := (hC3.setCell hXw _).setCell (fun _ => rfl) _
    have hP : ParsR ((W.setCell ⟨X, 0, none⟩ (.int .i64 ((c.toNat : Int) - 48))).setCell ⟨g, 1, none⟩ (.int .i64 ((a : Int) + 1))) g s (d' :: t) d := ⟨a + 1, ha2, HT.out, by simpa using hA3⟩
    have hfdr : (c.toNat : Int) - 48 = -1 ∨ (0 : Int) ≤ (c.toNat : Int) - 48 := .inr hle58
    simp only [List.setIfInBounds_toArray, List.set_cons_zero, List.set_cons_succ] at hX2
    clear h0 h1 h2 f1 f2 hfX hcX p0 hsc p1 p2 p3 p4 hA1 hA2 hA3 hX1 hZ2 hC3 HT hlb hle58 hdg2
    go_meet
    exact ⟨_, _, hX2, hP, hZ3, hC4.drewN 1, HKK, hfdr, hlq⟩
   ·have HKK := Lib.hid (HK.out _ _ (fdP_no hfb))
    rw [hfb]
    go_wp2_with fail
    go_meet
    exact ⟨_, _, hX1, ⟨a, ha, HB.out, hA1⟩, hZ2, hC3, HKK, .inl rfl, hbl⟩
  case rest =>
   clear hA1 hZ2 hC3 hX1 HK hfb
   obtain ⟨fd, q, hX1, hP, hZ1, hC1, HR, hfdr, hlq⟩ := hcut
   have hSg := sign_calls g s q d wc hP hs
   have hbl := blanks_le q
   have hsl := sgn_le q
   have e60 : ((bstr (sgn q)).toList == [60]) = (sgn q == [60]) := by rw [ByteArray.toList_eq, bstr_toList]
   have e61 : ((bstr (sgn q)).toList == [60, 38]) = (sgn q == [60, 38]) := by rw [ByteArray.toList_eq, bstr_toList]
   have e62 : ((bstr (sgn q)).toList == [62]) = (sgn q == [62]) := by rw [ByteArray.toList_eq, bstr_toList]
   have e63 : ((bstr (sgn q)).toList == [62, 62]) = (sgn q == [62, 62]) := by rw [ByteArray.toList_eq, bstr_toList]
   have e64 : ((bstr (sgn q)).toList == [62, 38]) = (sgn q == [62, 38]) := by rw [ByteArray.toList_eq, bstr_toList]
   have hzB : (bstr (sgn q)).size = (sgn q).length := bstr_size _
   have hXg : X ≠ g := by omega
   have hZX : w.heap.size ≠ X := by omega
   have hZg : w.heap.size ≠ g := by omega
   generalize sgn q = sg at *
   generalize hsB : bstr sg = sB at *
   generalize blanks q = q1 at *
   have HSB := Lib.hid hsB; clear hsB
   have hcX := row_cells hX1
   have hfX := row_free hX1
   go_wp2_with fail
   refine Calls.mono hSg ?_
   rintro e w4 ⟨rfl, hP4, hC4⟩
   have hX2 := row_chg hX1 hC4 hXg
   have hZ2 := row_chg hZ1 hC4 hZg
   have hC5 := hC1.trans hC4 (fun _ h _ => h)
   have hcX := row_cells hX2
   have hfX := row_free hX2
   clear hSg hX1 hZ1 hC1 hC4 hP
   go_upto_region 8 with fail
   have hX3 := row_set hX2 1 (.string sB)
   have hCX := setCell_chg w4 X 1 (.string sB)
   have hZ3 := row_chg hZ2 hCX hZX
   have hP5 := hP4.chg hCX (Ne.symm hXg)
   have hC6 := hC5.trans hCX (fun k hk hl => by omega)
   simp only [List.setIfInBounds_toArray, List.set_cons_zero, List.set_cons_succ] at hX3
   clear hX2 hZ2 hP4 hC5 hcX hfX hCX
   generalize w4.setCell ⟨X, 1, none⟩ (.string sB) = U at *
   have hcX := row_cells hX3
   have hfX := row_free hX3
   go_upto_block 0 with fail
   go_cut [] (fun wx => ∃ fd2 : Int, wx.heap[X]? = some (.cells #[.int .i64 fd2, .string sB, .slice none 0 0] 75) ∧ ParsR wx g s q1 d ∧ wx.heap[w.heap.size]? = some (.cells #[.int .i64 0, .string ⟨#[]⟩, .slice none 0 0] 75) ∧ Chg (· = g) w wx ∧
    Hid (R = (wd (q1.drop sg.length)).bind fun w r' => .ok (some ⟨fd2, sg, w⟩) r'))
   case first =>
    have fin : ∀ fd2 : Int, Hid (R = (wd (q1.drop sg.length)).bind fun w r' => .ok (some ⟨fd2, sg, w⟩) r') → (U.setCell ⟨X, 0, none⟩ (.int .i64 fd2)).heap[X]? = some (.cells #[.int .i64 fd2, .string sB, .slice none 0 0] 75) ∧ ParsR (U.setCell ⟨X, 0, none⟩ (.int .i64 fd2)) g s q1 d ∧ (U.setCell ⟨X, 0, none⟩ (.int .i64 fd2)).heap[w.heap.size]? = some (.cells #[.int .i64 0, .string ⟨#[]⟩, .slice none 0 0] 75) ∧ Chg (· = g) w (U.setCell ⟨X, 0, none⟩ (.int .i64 fd2)) ∧
      Hid (R = (wd (q1.drop sg.length)).bind fun w r' => .ok (some ⟨fd2, sg, w⟩) r') := by
     intro fd2 hR
     have hX4 := row_set hX3 0 (.int .i64 fd2)
     simp only [List.setIfInBounds_toArray, List.set_cons_zero, List.set_cons_succ] at hX4
     have hCX := setCell_chg U X 0 (.int .i64 fd2)
     exact ⟨hX4, hP5.chg hCX (Ne.symm hXg), row_chg hZ3 hCX hZX, hC6.trans hCX (fun k hk hl => by omega), hR⟩
    have HFIN := Lib.hid fin; clear fin
    cases c60 : sg == [60]
    case true =>
     rw [c60] at e60
     have hR : ∀ fd2, max fd 0 = fd2 → Hid (R = (wd (q1.drop sg.length)).bind fun w r' => .ok (some ⟨fd2, sg, w⟩) r') := fun fd2 h => Lib.hid (by rw [HR.out, c60, h]; rfl)
     clear HR
     rcases hfdr with rfl | hfd0
     ·have HF := HFIN.out 0 (hR 0 (by decide))
      clear HFIN hR
      go_wp2_with fail
      go_meet
      exact ⟨_, HF⟩
     ·have HF := HFIN.out fd (hR fd (by omega))
      have hmx : max fd 0 = fd := by omega
      clear HFIN hR
      go_wp2_with fail
      go_meet
      exact ⟨_, HF⟩
    case false =>
     rw [c60] at e60
     cases c61 : sg == [60, 38]
     case true =>
      rw [c61] at e61
      have hR : ∀ fd2, max fd 0 = fd2 → Hid (R = (wd (q1.drop sg.length)).bind fun w r' => .ok (some ⟨fd2, sg, w⟩) r') := fun fd2 h => Lib.hid (by rw [HR.out, c60, c61, h]; rfl)
      clear HR
      rcases hfdr with rfl | hfd0
      ·have HF := HFIN.out 0 (hR 0 (by decide))
       clear HFIN hR
       go_wp2_with fail
       go_meet
       exact ⟨_, HF⟩
      ·have HF := HFIN.out fd (hR fd (by omega))
       have hmx : max fd 0 = fd := by omega
       clear HFIN hR
       go_wp2_with fail
       go_meet
       exact ⟨_, HF⟩
     case false =>
      rw [c61] at e61
      cases c62 : sg == [62]
      case true =>
       rw [c62] at e62
       have hR : ∀ fd2, (if fd < 0 then 1 else fd) = fd2 → Hid (R = (wd (q1.drop sg.length)).bind fun w r' => .ok (some ⟨fd2, sg, w⟩) r') := fun fd2 h => Lib.hid (by rw [HR.out, c60, c61, c62, h]; rfl)
       clear HR
       rcases hfdr with rfl | hfd0
       ·have HF := HFIN.out 1 (hR 1 (by decide))
        clear HFIN hR
        go_wp2_with fail
        go_meet
        exact ⟨_, HF⟩
       ·have hlt0 : decide (fd < 0) = false := by rw [decide_eq_false_iff_not]; omega
        have hR1 := hR fd (by rw [if_neg (by omega)])
        clear HFIN hR
        go_wp2_with fail
        go_meet
        exact ⟨fd, hX3, hP5, hZ3, hC6, hR1⟩
      case false =>
       rw [c62] at e62
       cases c63 : sg == [62, 62]
       case true =>
        rw [c63] at e63
        have hR : ∀ fd2, (if fd < 0 then 1 else fd) = fd2 → Hid (R = (wd (q1.drop sg.length)).bind fun w r' => .ok (some ⟨fd2, sg, w⟩) r') := fun fd2 h => Lib.hid (by rw [HR.out, c60, c61, c62, c63, h]; rfl)
        clear HR
        rcases hfdr with rfl | hfd0
        ·have HF := HFIN.out 1 (hR 1 (by decide))
         clear HFIN hR
         go_wp2_with fail
         go_meet
         exact ⟨_, HF⟩
        ·have hlt0 : decide (fd < 0) = false := by rw [decide_eq_false_iff_not]; omega
         have hR1 := hR fd (by rw [if_neg (by omega)])
         clear HFIN hR
         go_wp2_with fail
         go_meet
         exact ⟨fd, hX3, hP5, hZ3, hC6, hR1⟩
       case false =>
        rw [c63] at e63
        cases c64 : sg == [62, 38]
        case true =>
         rw [c64] at e64
         have hR : ∀ fd2, (if fd < 0 then 1 else fd) = fd2 → Hid (R = (wd (q1.drop sg.length)).bind fun w r' => .ok (some ⟨fd2, sg, w⟩) r') := fun fd2 h => Lib.hid (by rw [HR.out, c60, c61, c62, c63, c64, h]; rfl)
         clear HR
         rcases hfdr with rfl | hfd0
         ·have HF := HFIN.out 1 (hR 1 (by decide))
          clear HFIN hR
          go_wp2_with fail
          go_meet
          exact ⟨_, HF⟩
         ·have hlt0 : decide (fd < 0) = false := by rw [decide_eq_false_iff_not]; omega
          have hR1 := hR fd (by rw [if_neg (by omega)])
          clear HFIN hR
          go_wp2_with fail
          go_meet
          exact ⟨fd, hX3, hP5, hZ3, hC6, hR1⟩
        case false =>
         rw [c64] at e64
         have HR2 : Hid (R = .ok none b) := Lib.hid (by rw [HR.out, c60, c61, c62, c63, c64]; rfl)
         obtain ⟨a5, ha5, _, _, hA5⟩ := hP5.pos
         obtain ⟨h0, h1, h2, f1, f2, _⟩ := ParsAt.cells hA5
         have hA6 := hA5.at' (a : Int)
         have hZ4 := row_far hZ3 (p := ⟨g, 1, none⟩) hZg (.int .i64 (a : Int))
         have hcZ := row_cells hZ4
         have hfZ := row_free hZ4
         have hC7 := hC6.setCell (p := ⟨g, 1, none⟩) (fun _ => rfl) (.int .i64 (a : Int))
         clear c60 c61 c62 c63 c64 HR HFIN hP5
         have HA6 := Lib.hid hA6
         clear hA6 hA5 h0 hcX hfX
         have hcX := row_cells hX3
         go_wp2
         have hCZ : Chg (· = w.heap.size) (U.setCell ⟨g, 1, none⟩ (.int .i64 (a : Int))) ((((U.setCell ⟨g, 1, none⟩ (.int .i64 (a : Int))).setCell ⟨w.heap.size, 0, none⟩ (.int .i64 0)).setCell ⟨w.heap.size, 1, none⟩ (.string ⟨#[]⟩)).setCell ⟨w.heap.size, 2, none⟩ (.slice none 0 0)) := ((setCell_chg _ w.heap.size 0 _).setCell (fun _ => rfl) _).setCell (fun _ => rfl) _
         refine bodyPost_ret (v := .tuple #[.agg #[.int .i64 0, .string ⟨#[]⟩, .slice none 0 0], .bool false]) (by simp [results, Tryz.results100, go_sem, hcZ]) rfl ?_
         rw [HR2.out]
         exact ⟨_, rfl, rfl, ⟨a, ha, HB.out, HA6.out.chg hCZ (Ne.symm hZg)⟩, hC7.trans hCZ (fun k hk hl => by omega)⟩
   case rest =>
    clear hX3 hP5 hZ3 hC6 HR hcX hfX e60 e61 e62 e63 e64
    obtain ⟨fd2, hX, hP, hZ, hC, HR⟩ := hcut
    obtain ⟨a5, ha5, hqe, hl5, hA5⟩ := hP.pos
    obtain ⟨h0, h1, h2, f1, f2, _⟩ := ParsAt.cells hA5
    have hcX := row_cells hX
    have hb1 : a5 + sg.length ≤ s.size := by omega
    have hA6 := hA5.at' ((a5 : Int) + (sg.length : Int))
    have hX6 := row_far hX (p := ⟨g, 1, none⟩) hXg (.int .i64 ((a5 : Int) + (sg.length : Int)))
    have hZ6 := row_far hZ (p := ⟨g, 1, none⟩) hZg (.int .i64 ((a5 : Int) + (sg.length : Int)))
    have hC6 := hC.setCell (p := ⟨g, 1, none⟩) (fun _ => rfl) (.int .i64 ((a5 : Int) + (sg.length : Int)))
    have hP6 : ParsR (wc.setCell ⟨g, 1, none⟩ (.int .i64 ((a5 : Int) + (sg.length : Int)))) g s (q1.drop sg.length) d := ⟨a5 + sg.length, hb1, by rw [hqe, List.drop_drop], by simpa using hA6⟩
    have hlq2 : (q1.drop sg.length).length ≤ m := by simp; omega
    have p4 : IntKind.i64.wrap ((a5 : Int) + (sg.length : Int)) = (a5 : Int) + (sg.length : Int) := IntWalk.i64_in _ (by omega)
    have hZl : w.heap.size ≤ wc.heap.size := hC.size
    clear hqe hl5 hA5 hA6 hP hbl hsl hl
    go_wp2
    refine still_tail2 10 (by kernel_rfl) (by kernel_rfl) ?_
    simp only [List.take_succ_cons, List.take_zero, List.drop_succ_cons, List.drop_zero]
    repeat still_step
    refine wpStill_nil ?_
    go_wp2_with fail
    clear p4 h0 h1 h2 f1 f2 hcX hX hZ hC
    generalize q1.drop sg.length = q2 at *
    generalize wc.setCell ⟨g, 1, none⟩ (.int .i64 ((a5 : Int) + (sg.length : Int))) = U2 at *
    refine Calls.mono (hc g s q2 _ (hP6.drewN 1) hs hlq2) ?_
    rintro e w7 hp
    rcases ppost_cases hp with ⟨x, r2, v, hXx, rfl, ⟨A, c, rfl, hcs⟩, hP8, hC11⟩ | ⟨l, c, k, hXx, hk, hl, rfl, hC11⟩
    rotate_left
    ·go_wp2
     exact ⟨rfl, by rw [HR.out, hXx]; exact ⟨k, hk, hl, rfl, (hC6.drewN 1).trans hC11 (fun _ h _ => h)⟩⟩
    clear hp
    have HR2 : Hid (R = .ok (some ⟨fd2, sg, x⟩) r2) := Lib.hid (by rw [HR.out, hXx]; rfl)
    have hX7 := row_chg (B := (· = g)) (w := U2.drew) hX6 hC11 hXg
    have hZ7 := row_chg (B := (· = g)) (w := U2.drew) hZ6 hC11 hZg
    have hC7 := (hC6.drewN 1).trans hC11 (fun _ h _ => h)
    have hXl : X < U2.heap.size := row_lt hX6
    have HCS := Lib.hid hcs
    have hcX := row_cells hX7
    have hfX := row_free hX7
    have hcZ := row_cells hZ7
    have hfZ := row_free hZ7
    clear hXx HR hX6 hZ6 hC6 hC11 hP6 hcs
    go_wp2
    have hCall : Chg (fun k => k = X ∨ k = w.heap.size) w7 ((((w7.setCell ⟨X, 2, none⟩ (.slice A x.length c)).setCell ⟨w.heap.size, 0, none⟩ (.int .i64 fd2)).setCell ⟨w.heap.size, 1, none⟩ (.string sB)).setCell ⟨w.heap.size, 2, none⟩ (.slice A x.length c)) :=
     ((((Chg.refl _ w7).setCell (fun _ => .inl rfl) _).setCell (fun _ => .inr rfl) _).setCell (fun _ => .inr rfl) _).setCell (fun _ => .inr rfl) _
    have hcZ2 := row_cells (row_chg (B := (· = X)) hZ7 (setCell_chg w7 X 2 (.slice A x.length c)) hZX)
    refine bodyPost_ret (v := .tuple #[.agg #[.int .i64 fd2, .string sB, .slice A x.length c], .bool true]) (by simp [results, Tryz.results100, go_sem, hcZ2]) rfl ?_
    rw [HR2.out]
    have hZU : w.heap.size ≤ U2.heap.size := by omega
    refine ⟨_, rfl, ⟨[.int .i64 fd2, .string sB, .slice A x.length c], rfl, rdr_rep.2 ⟨_, by rw [HSB.out], ?_⟩⟩, hP8.chg hCall (by omega), hC7.trans hCall (fun k hk hl => by omega)⟩
    exact (HCS.out.stay hCall (fun k hk e => by have hk' : U2.heap.size ≤ k := hk; omega)).mono (fun k hk _ => by have hk' : U2.heap.size ≤ k := hk; omega)
end Go.Proofs.YtdfnkmiabmjolaaGreatDoor
