/- parse and Parse. And what stands with it. -/
import Derived.Test.YtdfnkmiabmjolaaGreatDoorJ12
set_option linter.unusedVariables false
set_option linter.unusedSimpArgs false
namespace Go.Proofs.YtdfnkmiabmjolaaGreatDoor
open Go.RowKit
theorem pcatch_idle (p q r : Addr) (w : World) :
  CallsD Tryz.prog 33 #[.pointer (some p), .pointer (some q), .pointer (some r)] .returning w fun e u' w' => e = .returned (.tuple #[]) ∧ u' = .returning ∧ w' = w := by
 refine callsD_of_wpS Tryz.func33 rfl fun c₀ cs hu => ?_
 apply wpS_seq
 apply wpS_region
 simp [wpOpsS, go_sem, recoverD, hu, Tryz.ntmps33, Exit.thenS]
 refine wpS_of_wp ?_
 go_wp2
 cases c₀
 simp_all [bodyPostS, results, Tryz.results33]
theorem passert_fault (v : Value) (w : World) : (Instr.typeAssert (.iface 82 v) 20 82 true).run Tryz.prog w = .ok (.tuple #[v, .bool true]) w := by kernel_rfl
set_option maxRecDepth 100000 in
set_option maxHeartbeats 2000000 in
theorem pcatch_fault (h : Nat) (vp vq vr : Value) (k c : Int) (w : World) (t1 t2 t3 : TypeId) (hp : w.heap[h]? = some (.cells #[vp] t1)) (hq : w.heap[h + 1]? = some (.cells #[vq] t2)) (hr : w.heap[h + 2]? = some (.cells #[vr] t3)) :
  CallsD Tryz.prog 33 #[.pointer (some ⟨h, 0, none⟩), .pointer (some ⟨h + 1, 0, none⟩), .pointer (some ⟨h + 2, 0, none⟩)] (.panicking [{ v := .iface 82 (.agg #[.int .i64 k, .int .i64 c]), recovered := false }]) w fun e u' w' =>
   e = .returned (.tuple #[]) ∧ u' = .panicking [{ v := .iface 82 (.agg #[.int .i64 k, .int .i64 c]), recovered := true }] ∧
   w'.cell? ⟨h, 0, none⟩ = some (.slice none 0 0) ∧ w'.cell? ⟨h + 1, 0, none⟩ = some (.int .i64 k) ∧ w'.cell? ⟨h + 2, 0, none⟩ = some (.int .i64 c) ∧ Chg (fun j => h ≤ j ∧ j ≤ h + 2) w w' := by
 have hh := row_lt hr
 refine callsD_of_wpS Tryz.func33 rfl fun c₀ cs hu => ?_
 apply wpS_seq
 apply wpS_region
 simp [wpOpsS, go_sem, recoverD, hu, Tryz.ntmps33, Exit.thenS]
 refine wpS_of_wp ?_
 change Code.wp _ _ _ { tmps := #[.pointer (some ⟨h, 0, none⟩), .pointer (some ⟨h + 1, 0, none⟩), .pointer (some ⟨h + 2, 0, none⟩), undef, undef, undef, .iface 82 (.agg #[.int .i64 k, .int .i64 c]), undef, undef, undef, undef, undef, undef, undef, undef, undef], defers := [] } w
 have has := passert_fault (.agg #[.int .i64 k, .int .i64 c])
 have n1 : ¬ w.heap.size = h := by omega
 have n2 : ¬ w.heap.size = h + 1 := by omega
 have n3 : ¬ w.heap.size = h + 2 := by omega
 have n4 : ¬ h = w.heap.size := by omega
 have n5 : ¬ h + 1 = w.heap.size := by omega
 have n6 : ¬ h + 2 = w.heap.size := by omega
 have hA := row_new w (.cells #[.int .i64 k, .int .i64 c] 82)
 have hp' := row_alloc hp (.cells #[.int .i64 k, .int .i64 c] 82)
 have hq' := row_alloc hq (.cells #[.int .i64 k, .int .i64 c] 82)
 have hr' := row_alloc hr (.cells #[.int .i64 k, .int .i64 c] 82)
 have hC : Chg (fun j => h ≤ j ∧ j ≤ h + 2) w (w.alloc (.cells #[.int .i64 k, .int .i64 c] 82)) := (Chg.refl _ _).alloc _
 go_wp2
 revert hA hp' hq' hr' hC
 generalize w.alloc (.cells #[.int .i64 k, .int .i64 c] 82) = wa
 intro hA hp' hq' hr' hC
 clear hp hq hr
 have a0 := row_cells hA
 have p0 := row_cells hp'
 have q0 := row_cells hq'
 have r0 := row_cells hr'
 have p1 := row_free hp'
 have q1 := row_free hq'
 have r1 := row_free hr'
 go_region_held3 (fun w' => w'.cell? ⟨w.heap.size, 0, none⟩ = some (.int .i64 k) ∧ w'.cell? ⟨w.heap.size, 1, none⟩ = some (.int .i64 c)) (go_keep) (fail)
 have n7 : ¬ h = h + 1 := by omega
 have n8 : ¬ h = h + 2 := by omega
 have g0 := row_far (row_far (row_set hp' 0 (.slice none 0 0)) (p := ⟨h + 1, 0, none⟩) n7 (.int .i64 k)) (p := ⟨h + 2, 0, none⟩) n8 (.int .i64 c)
 have g1 := row_far (row_set (row_far hq' (p := ⟨h, 0, none⟩) (by simp) (.slice none 0 0)) 0 (.int .i64 k)) (p := ⟨h + 2, 0, none⟩) (by simp) (.int .i64 c)
 have g2 := row_set (row_far (row_far hr' (p := ⟨h, 0, none⟩) (by simp) (.slice none 0 0)) (p := ⟨h + 1, 0, none⟩) (by simp) (.int .i64 k)) 0 (.int .i64 c)
 have hC3 := (((hC.setCell (p := ⟨h, 0, none⟩) (fun _ => by simp) (.slice none 0 0)).setCell (p := ⟨h + 1, 0, none⟩) (fun _ => by simp) (.int .i64 k)).setCell (p := ⟨h + 2, 0, none⟩) (fun _ => by simp) (.int .i64 c)).drew
 have f0 : (((wa.setCell ⟨h, 0, none⟩ (.slice none 0 0)).setCell ⟨h + 1, 0, none⟩ (.int .i64 k)).setCell ⟨h + 2, 0, none⟩ (.int .i64 c)).drew.cell? ⟨h, 0, none⟩ = some (.slice none 0 0) := row_cells g0 0
 have f1 : (((wa.setCell ⟨h, 0, none⟩ (.slice none 0 0)).setCell ⟨h + 1, 0, none⟩ (.int .i64 k)).setCell ⟨h + 2, 0, none⟩ (.int .i64 c)).drew.cell? ⟨h + 1, 0, none⟩ = some (.int .i64 k) := row_cells g1 0
 have f2 : (((wa.setCell ⟨h, 0, none⟩ (.slice none 0 0)).setCell ⟨h + 1, 0, none⟩ (.int .i64 k)).setCell ⟨h + 2, 0, none⟩ (.int .i64 c)).drew.cell? ⟨h + 2, 0, none⟩ = some (.int .i64 c) := row_cells g2 0
 clear p0 q0 r0 p1 q1 r1 a0 hA hp' hq' hr' hC
 revert f0 f1 f2 hC3
 generalize (((wa.setCell ⟨h, 0, none⟩ (.slice none 0 0)).setCell ⟨h + 1, 0, none⟩ (.int .i64 k)).setCell ⟨h + 2, 0, none⟩ (.int .i64 c)).drew = wb
 intro f0 f1 f2 hC3
 go_wp2
 cases c₀
 simp only at hu
 subst hu
 simp [bodyPostS, results, Tryz.results33, f0, f1, f2, hC3]
abbrev fCatch : Nat := 33
def ParseEnd (w : World) (s : ByteArray) (R : Rs (List Lst)) (e : Ending) (w' : World) : Prop := Chg (fun _ => False) w w' ∧ match R with
 | .ok l _ => ∃ A c, e = .returned (.tuple #[.slice A l.length c, .int .i64 0, .int .i64 0]) ∧ Rep w' (fun k => w.heap.size ≤ k) (.sl 39 2 (Lst.ds l)) [.slice A l.length c]
 | .err left c => e = .returned (.tuple #[.slice none 0 0, .int .i64 (s.size - left : Nat), .int .i64 c]) ∧ left ≤ s.size
set_option maxRecDepth 100000 in
set_option maxHeartbeats 4000000 in
theorem parse_calls (ls : Bytes → Rs (List Lst)) (d : Nat) (m : Nat) (s : ByteArray) (w : World) (hs : s.size ≤ 8192) (hm : s.size ≤ m) (hls : 1 ≤ s.size → LsSaid ls d m) :
  Calls Tryz.prog 18 #[.string s, .int .i64 d] w (ParseEnd w s (parseG ls s.data.toList)) := by
 have hmf : ∀ (fn : Fn) (first cap : Array Value) (w : World), (Instr.makeFunc fn first cap).run Tryz.prog w = .ok (.func fn first cap) w := fun _ _ _ _ => rfl
 generalize hR : parseG ls s.data.toList = R
 rw [parseG] at hR
 have HR := Lib.hid hR.symm; clear hR
 go_enter_defers Tryz.func18, Tryz.ntmps18
 go_wp2_with fail
 have c0 := row_new w (.cells #[.slice none 0 0] 22)
 have hA : ParsAt ((((w.alloc (Obj.cells #[Value.slice none 0 0] 22)).alloc (Obj.cells #[Value.int IntKind.i64 0] 3)).alloc (Obj.cells #[Value.int IntKind.i64 0] 25)).alloc (Obj.cells #[Value.string s, Value.int IntKind.i64 0, Value.int IntKind.i64 d] 85)) (w.heap.size + 1 + 1 + 1) s (0 : Nat) d := by
  have := row_new (((w.alloc (Obj.cells #[Value.slice none 0 0] 22)).alloc (Obj.cells #[Value.int IntKind.i64 0] 3)).alloc (Obj.cells #[Value.int IntKind.i64 0] 25)) (Obj.cells #[Value.string s, Value.int IntKind.i64 0, Value.int IntKind.i64 d] 85)
  unfold ParsAt
  simpa using this
 have c1 : ((w.alloc (Obj.cells #[Value.slice none 0 0] 22)).alloc (Obj.cells #[Value.int IntKind.i64 0] 3)).heap[w.heap.size + 1]? = some (Obj.cells #[Value.int IntKind.i64 0] 3) := by
  have := row_new (w.alloc (Obj.cells #[Value.slice none 0 0] 22)) (Obj.cells #[Value.int IntKind.i64 0] 3)
  simpa using this
 have c2 : (((w.alloc (Obj.cells #[Value.slice none 0 0] 22)).alloc (Obj.cells #[Value.int IntKind.i64 0] 3)).alloc (Obj.cells #[Value.int IntKind.i64 0] 25)).heap[w.heap.size + 2]? = some (Obj.cells #[Value.int IntKind.i64 0] 25) := by
  have := row_new ((w.alloc (Obj.cells #[Value.slice none 0 0] 22)).alloc (Obj.cells #[Value.int IntKind.i64 0] 3)) (Obj.cells #[Value.int IntKind.i64 0] 25)
  simpa using this
 have d0 := row_alloc (row_alloc (row_alloc c0 (Obj.cells #[Value.int IntKind.i64 0] 3)) (Obj.cells #[Value.int IntKind.i64 0] 25)) (Obj.cells #[Value.string s, Value.int IntKind.i64 0, Value.int IntKind.i64 d] 85)
 have d1 := row_alloc (row_alloc c1 (Obj.cells #[Value.int IntKind.i64 0] 25)) (Obj.cells #[Value.string s, Value.int IntKind.i64 0, Value.int IntKind.i64 d] 85)
 have d2 := row_alloc c2 (Obj.cells #[Value.string s, Value.int IntKind.i64 0, Value.int IntKind.i64 d] 85)
 have hC := ((((Chg.refl (fun _ => False) w).alloc (Obj.cells #[Value.slice none 0 0] 22)).alloc (Obj.cells #[Value.int IntKind.i64 0] 3)).alloc (Obj.cells #[Value.int IntKind.i64 0] 25)).alloc (Obj.cells #[Value.string s, Value.int IntKind.i64 0, Value.int IntKind.i64 d] 85)
 have hU : ((((w.alloc (Obj.cells #[Value.slice none 0 0] 22)).alloc (Obj.cells #[Value.int IntKind.i64 0] 3)).alloc (Obj.cells #[Value.int IntKind.i64 0] 25)).alloc (Obj.cells #[Value.string s, Value.int IntKind.i64 0, Value.int IntKind.i64 d] 85)).heap.size = w.heap.size + 4 := by simp
 have hP : ParsR ((((w.alloc (Obj.cells #[Value.slice none 0 0] 22)).alloc (Obj.cells #[Value.int IntKind.i64 0] 3)).alloc (Obj.cells #[Value.int IntKind.i64 0] 25)).alloc (Obj.cells #[Value.string s, Value.int IntKind.i64 0, Value.int IntKind.i64 d] 85)) (w.heap.size + 1 + 1 + 1) s s.data.toList d := ⟨0, Nat.zero_le _, by simp, hA⟩
 clear c0 c1 c2 hA
 generalize (((w.alloc (Obj.cells #[Value.slice none 0 0] 22)).alloc (Obj.cells #[Value.int IntKind.i64 0] 3)).alloc (Obj.cells #[Value.int IntKind.i64 0] 25)).alloc (Obj.cells #[Value.string s, Value.int IntKind.i64 0, Value.int IntKind.i64 d] 85) = U at *
 generalize s.data.toList = L at *
 obtain ⟨g, hg⟩ : ∃ g, g = w.heap.size + 1 + 1 + 1 := ⟨_, rfl⟩
 rw [← hg] at hP ⊢
 have hg1 : w.heap.size + 2 < g := by omega
 clear hg
 have hll := lines_le L
 have hLs := hP.len
 refine (lines_calls g s _ d U hP hs).mono ?_
 rintro e w1 ⟨rfl, hP1, hC1⟩
 have r0 := row_chg d0 hC1 (by omega)
 have r1 := row_chg d1 hC1 (by omega)
 have r2 := row_chg d2 hC1 (by omega)
 have hC2 := hC.trans (B' := fun j => j = g) hC1 (fun j h hl => by omega)
 have hU1 := hC1.size
 clear d0 d1 d2 hC hC1 hP hll
 obtain ⟨a, ha, hbe, hl, hA⟩ := hP1.pos
 obtain ⟨h0, h1, h2, f1, f2, _⟩ := hA.cells
 have HB := Lib.hid hbe
 obtain ⟨be, hbe2⟩ : ∃ be, (lines L).isEmpty = be := ⟨_, rfl⟩
 have hbl := lines_le L
 rw [hbe2] at HR
 generalize lines L = b at *
 have hlt : decide ((a : Int) < (s.size : Int)) = !be := by
  rw [← hbe2]
  cases b with
  | nil => simp at hl; simp; omega
  | cons x l => simp at hl; simp; omega
 clear hbe hl hbe2
 have p0 := row_cells r0
 have p1 := row_cells r1
 have p2 := row_cells r2
 have q0 := row_free r0
 have q1 := row_free r1
 have q2 := row_free r2
 have m1 : ¬ w.heap.size + 1 + 1 = w.heap.size := by omega
 have m2 : ¬ w.heap.size = w.heap.size + 1 + 1 := by omega
 have m3 : ¬ g = w.heap.size := by omega
 have m4 : ¬ w.heap.size = g := by omega
 cases be
 case true =>
  simp only [Bool.not_true] at hlt
  have hltN : decide (a < s.size) = false := by simp at hlt; simp; omega
  have HR2 : Hid (R = .ok [] []) := Lib.hid (by rw [HR.out]; rfl)
  clear HR
  have hO : Rep w1 (fun k => w.heap.size + 2 < k) (.sl 39 2 (Lst.ds [])) [.slice none 0 0] := rep_nil _ _ _ _
  have HRZ := HR2
  clear HR2
  go_wp2
  have n7 : ¬ w.heap.size = w.heap.size + 1 := by omega
  have n8 : ¬ w.heap.size + 1 = w.heap.size + 1 + 1 := by omega
  have g0 := row_far (row_far (row_set r0 0 (.slice none 0 0)) (p := ⟨w.heap.size + 1, 0, none⟩) (by simp) (.int .i64 0)) (p := ⟨w.heap.size + 1 + 1, 0, none⟩) m2 (.int .i64 0)
  have g1 := row_far (row_set (row_far r1 (p := ⟨w.heap.size, 0, none⟩) (by simp) (.slice none 0 0)) 0 (.int .i64 0)) (p := ⟨w.heap.size + 1 + 1, 0, none⟩) (by simp) (.int .i64 0)
  have g2 := row_set (row_far (row_far r2 (p := ⟨w.heap.size, 0, none⟩) (by simp) (.slice none 0 0)) (p := ⟨w.heap.size + 1, 0, none⟩) (by simp) (.int .i64 0)) 0 (.int .i64 0)
  have hCW : Chg (fun j => j ≤ w.heap.size + 2) w1 (((w1.setCell ⟨w.heap.size, 0, none⟩ (.slice none 0 0)).setCell ⟨w.heap.size + 1, 0, none⟩ (.int .i64 0)).setCell ⟨w.heap.size + 1 + 1, 0, none⟩ (.int .i64 0)) := (((Chg.refl _ _).setCell (fun _ => by simp) _).setCell (fun _ => by simp) _).setCell (fun _ => by simp) _
  have hCA : Chg (fun j => w.heap.size ≤ j ∧ j ≤ w.heap.size + 2) w1 (((w1.setCell ⟨w.heap.size, 0, none⟩ (.slice none 0 0)).setCell ⟨w.heap.size + 1, 0, none⟩ (.int .i64 0)).setCell ⟨w.heap.size + 1 + 1, 0, none⟩ (.int .i64 0)) := (((Chg.refl _ _).setCell (fun _ => ⟨Nat.le_refl w.heap.size, by show w.heap.size ≤ w.heap.size + 2; omega⟩) _).setCell (fun _ => ⟨by show w.heap.size ≤ w.heap.size + 1; omega, by show w.heap.size + 1 ≤ w.heap.size + 2; omega⟩) _).setCell (fun _ => ⟨by show w.heap.size ≤ w.heap.size + 1 + 1; omega, Nat.le_refl (w.heap.size + 2)⟩) _
  have hC9 := (hC2).trans hCA (fun j h hl => by omega)
  have hO9 := (hO).stay hCW (fun k hk h => by have hk' : w.heap.size + 2 < k := hk; have h' : k ≤ w.heap.size + 2 := h; omega)
  have z0 := row_cells g0 0
  have z1 := row_cells g1 0
  have z2 := row_cells g2 0
  simp only [List.setIfInBounds_toArray, List.set_cons_zero] at z0 z1 z2
  refine leaves_cons (f := fCatch) (args := #[.pointer (some ⟨w.heap.size, 0, none⟩), .pointer (some ⟨w.heap.size + 1, 0, none⟩), .pointer (some ⟨w.heap.size + 2, 0, none⟩)]) (by simp) (by simp [go_sem]) ?_
  refine (pcatch_idle _ _ _ _).mono ?_
  rintro e u' w9 ⟨rfl, rfl, rfl⟩
  simp [Leaves, settle, results, Tryz.results18, go_sem, z0, z1, z2]
  rw [HRZ.out]
  refine ⟨hC9, none, 0, ?_, ?_⟩
  ·first | rfl | rw [HNL.out]
  ·have hO10 := hO9.mono (S' := fun k => w.heap.size ≤ k) (fun k hk _ => by have hk' : w.heap.size + 2 < k := hk; omega)
   first | exact hO10 | (rw [HNL.out]; exact hO10)
 case false =>
  simp only [Bool.not_false, decide_eq_true_eq] at hlt
  have hltN : a < s.size := by omega
  have HR2 : Hid (R = (ls b).bind fun l r => if r.isEmpty then .ok l [] else failS r 61) := Lib.hid (by rw [HR.out]; rfl)
  clear HR
  go_wp2_with fail
  refine (hls (by omega) g s b w1 hP1 hs (by omega)).mono ?_
  rintro e w2 hp
  rcases ppost_cases hp with ⟨l, r, v, hX, rfl, ⟨A5, c5, rfl, hO⟩, hP2, hC3⟩ | ⟨le, ce, ke, hX, hke, hle', rfl, hC3⟩
  ·obtain ⟨a2, ha2, hbe2, hl2, hA2⟩ := hP2.pos
   obtain ⟨k0, k1, k2, _, _, _⟩ := hA2.cells
   have HB2 := Lib.hid hbe2
   have u0 := row_chg r0 hC3 (by omega)
   have u1 := row_chg r1 hC3 (by omega)
   have u2 := row_chg r2 hC3 (by omega)
   have hC4 := hC2.trans (B' := fun j => j = g) hC3 (fun j h hl => by omega)
   have hU2 := hC3.size
   have HR3 : Hid (R = if r.isEmpty then .ok l [] else failS r 61) := Lib.hid (by rw [HR2.out, hX]; rfl)
   obtain ⟨re, hre⟩ : ∃ re, r.isEmpty = re := ⟨_, rfl⟩
   rw [hre] at HR3
   have hlt2 : decide (a2 < s.size) = !re := by
    rw [← hre]
    cases r with
    | nil => simp at hl2; simp; omega
    | cons x l => simp at hl2; simp; omega
   have hO' : Rep w2 (fun k => w.heap.size + 2 < k) (.sl 39 2 (Lst.ds l)) [.slice A5 l.length c5] := hO.mono (fun k hk _ => by have hk' : w1.heap.size ≤ k := hk; omega)
   have p0 := row_cells u0
   have p1 := row_cells u1
   have p2 := row_cells u2
   have q0 := row_free u0
   have q1 := row_free u1
   have q2 := row_free u2
   clear HR2 hX hO hC2 hC3 r0 r1 r2 hP1 hA h0 h1 h2 f1 f2 hlt hltN hbe2 hl2 hre
   generalize hnl : l.length = nl at *
   have HNL := Lib.hid hnl; clear hnl
   cases re
   case true =>
    have HRZ : Hid (R = .ok l []) := Lib.hid (by rw [HR3.out]; rfl)
    have hlt2' : decide ((a2 : Int) < (s.size : Int)) = false := by simp at hlt2; simp; omega
    clear HR3
    have hCS := setCell_chg w2 w.heap.size 0 (.slice A5 nl c5)
    have hC5 := hC4.trans (B' := (· = w.heap.size)) hCS (fun j h hl => by omega)
    have hO2 := hO'.stay hCS (fun k hk e => by have hk' : w.heap.size + 2 < k := hk; omega)
    have v0 := row_set u0 0 (.slice A5 nl c5)
    have v1 := row_chg u1 hCS (by omega)
    have v2 := row_chg u2 hCS (by omega)
    have p3 := row_cells v0
    go_wp2
    clear p0 p1 p2 p3 q0 q1 q2 k0 k1 k2
    have n7 : ¬ w.heap.size = w.heap.size + 1 := by omega
    have n8 : ¬ w.heap.size + 1 = w.heap.size + 1 + 1 := by omega
    have g0 := row_far (row_far (row_set v0 0 (.slice A5 nl c5)) (p := ⟨w.heap.size + 1, 0, none⟩) (by simp) (.int .i64 0)) (p := ⟨w.heap.size + 1 + 1, 0, none⟩) m2 (.int .i64 0)
    have g1 := row_far (row_set (row_far v1 (p := ⟨w.heap.size, 0, none⟩) (by simp) (.slice A5 nl c5)) 0 (.int .i64 0)) (p := ⟨w.heap.size + 1 + 1, 0, none⟩) (by simp) (.int .i64 0)
    have g2 := row_set (row_far (row_far v2 (p := ⟨w.heap.size, 0, none⟩) (by simp) (.slice A5 nl c5)) (p := ⟨w.heap.size + 1, 0, none⟩) (by simp) (.int .i64 0)) 0 (.int .i64 0)
    have hCW : Chg (fun j => j ≤ w.heap.size + 2) (w2.setCell ⟨w.heap.size, 0, none⟩ (.slice A5 nl c5)) ((((w2.setCell ⟨w.heap.size, 0, none⟩ (.slice A5 nl c5)).setCell ⟨w.heap.size, 0, none⟩ (.slice A5 nl c5)).setCell ⟨w.heap.size + 1, 0, none⟩ (.int .i64 0)).setCell ⟨w.heap.size + 1 + 1, 0, none⟩ (.int .i64 0)) := (((Chg.refl _ _).setCell (fun _ => by simp) _).setCell (fun _ => by simp) _).setCell (fun _ => by simp) _
    have hCA : Chg (fun j => w.heap.size ≤ j ∧ j ≤ w.heap.size + 2) (w2.setCell ⟨w.heap.size, 0, none⟩ (.slice A5 nl c5)) ((((w2.setCell ⟨w.heap.size, 0, none⟩ (.slice A5 nl c5)).setCell ⟨w.heap.size, 0, none⟩ (.slice A5 nl c5)).setCell ⟨w.heap.size + 1, 0, none⟩ (.int .i64 0)).setCell ⟨w.heap.size + 1 + 1, 0, none⟩ (.int .i64 0)) := (((Chg.refl _ _).setCell (fun _ => ⟨Nat.le_refl w.heap.size, by show w.heap.size ≤ w.heap.size + 2; omega⟩) _).setCell (fun _ => ⟨by show w.heap.size ≤ w.heap.size + 1; omega, by show w.heap.size + 1 ≤ w.heap.size + 2; omega⟩) _).setCell (fun _ => ⟨by show w.heap.size ≤ w.heap.size + 1 + 1; omega, Nat.le_refl (w.heap.size + 2)⟩) _
    have hC9 := (hC5).trans hCA (fun j h hl => by omega)
    have hO9 := (hO2).stay hCW (fun k hk h => by have hk' : w.heap.size + 2 < k := hk; have h' : k ≤ w.heap.size + 2 := h; omega)
    have z0 := row_cells g0 0
    have z1 := row_cells g1 0
    have z2 := row_cells g2 0
    simp only [List.setIfInBounds_toArray, List.set_cons_zero] at z0 z1 z2
    refine leaves_cons (f := fCatch) (args := #[.pointer (some ⟨w.heap.size, 0, none⟩), .pointer (some ⟨w.heap.size + 1, 0, none⟩), .pointer (some ⟨w.heap.size + 2, 0, none⟩)]) (by simp) (by simp [go_sem]) ?_
    refine (pcatch_idle _ _ _ _).mono ?_
    rintro e u' w9 ⟨rfl, rfl, rfl⟩
    simp [Leaves, settle, results, Tryz.results18, go_sem, z0, z1, z2]
    rw [HRZ.out]
    refine ⟨hC9, A5, c5, ?_, ?_⟩
    ·first | rfl | rw [HNL.out]
    ·have hO10 := hO9.mono (S' := fun k => w.heap.size ≤ k) (fun k hk _ => by have hk' : w.heap.size + 2 < k := hk; omega)
     first | exact hO10 | (rw [HNL.out]; exact hO10)
   case false =>
    have HR4 : Hid (R = failS r 61) := Lib.hid (by rw [HR3.out]; rfl)
    have hlt2' : (a2 : Int) < (s.size : Int) := by simp at hlt2; omega
    have hlt3 : a2 < s.size := by omega
    clear HR3 hlt2
    have hCS := setCell_chg w2 w.heap.size 0 (.slice A5 nl c5)
    have hA3 := hA2.chg hCS (by omega)
    have hC5 := hC4.trans (B' := (· = w.heap.size)) hCS (fun j h hl => by omega)
    have v0 := row_set u0 0 (.slice A5 nl c5)
    have v1 := row_chg u1 hCS (by omega)
    have v2 := row_chg u2 hCS (by omega)
    go_wp2_with fail
    refine Calls.mono (fail_at (α := List Lst) g s r d _ 61 w _ a2 a2 HB2.out ha2 hA3 (hC5.mono (fun _ h _ => h.elim)) (fun _ _ _ => True)) ?_
    rintro e w4 ⟨⟨ch, rfl⟩, hpost, rfl⟩
    rcases ppost_cases hpost with ⟨_, _, _, _, h, _⟩ | ⟨le, ce, ke, hX, hke, hle', heq, _⟩
    ·cases h
    ·cases heq
     have HRZ : Hid (R = .err le ce) := Lib.hid (by rw [HR4.out, hX])
     refine leaves_cons (f := fCatch) (args := #[.pointer (some ⟨w.heap.size, 0, none⟩), .pointer (some ⟨w.heap.size + 1, 0, none⟩), .pointer (some ⟨w.heap.size + 2, 0, none⟩)]) (by simp) (by simp [go_sem]) ?_
     refine (pcatch_fault w.heap.size _ _ _ ke ce (w2.setCell ⟨w.heap.size, 0, none⟩ (.slice A5 nl c5)) _ _ _ v0 v1 v2).mono ?_
     rintro e u' w9 ⟨rfl, rfl, z0, z1, z2, hC9⟩
     simp [Leaves, settle, results, Tryz.results18, go_sem, z0, z1, z2]
     rw [HRZ.out]
     refine ⟨(hC5).trans hC9 (fun j h hl => by have := h.1; omega), ?_, by omega⟩
     rw [hle', show s.size - (s.size - ke) = ke by omega]
  ·have u0 := row_chg r0 hC3 (by omega)
   have u1 := row_chg r1 hC3 (by omega)
   have u2 := row_chg r2 hC3 (by omega)
   have HRZ : Hid (R = .err le ce) := Lib.hid (by rw [HR2.out, hX]; rfl)
   have hC4 := hC2.trans hC3 (fun j h hl => by omega)
   refine leaves_cons (f := fCatch) (args := #[.pointer (some ⟨w.heap.size, 0, none⟩), .pointer (some ⟨w.heap.size + 1, 0, none⟩), .pointer (some ⟨w.heap.size + 2, 0, none⟩)]) (by simp) (by simp [go_sem]) ?_
   refine (pcatch_fault w.heap.size _ _ _ ke ce w2 _ _ _ u0 u1 u2).mono ?_
   rintro e u' w9 ⟨rfl, rfl, z0, z1, z2, hC9⟩
   simp [Leaves, settle, results, Tryz.results18, go_sem, z0, z1, z2]
   rw [HRZ.out]
   refine ⟨(hC4).trans hC9 (fun j h hl => by have := h.1; omega), ?_, by omega⟩
   rw [hle', show s.size - (s.size - ke) = ke by omega]
end Go.Proofs.YtdfnkmiabmjolaaGreatDoor
namespace Go.Proofs.YtdfnkmiabmjolaaGreatDoor
def Ends (x : Bytes) : Prop := x = [] ∨ ∃ y, x = 10 :: y
theorem bind_ok {α β : Type} {X : Rs α} {f : α → Bytes → Rs β} {v : β} {r' : Bytes} : X.bind f = .ok v r' ↔ ∃ a r1, X = .ok a r1 ∧ f a r1 = .ok v r' := by
 cases X with
 | ok a r1 =>
  simp only [Rs.bind, Rs.ok.injEq]
  exact ⟨fun h => ⟨a, r1, ⟨rfl, rfl⟩, h⟩, fun ⟨_, _, ⟨e1, e2⟩, h⟩ => by subst e1 e2; exact h⟩
 | err l c => simp [Rs.bind]
def Lost (r : Bytes) : Prop := ∀ l r', scan (blanks r) ≠ .ok l r'
def Out (r : Bytes) : Prop := Lost r ∨ blanks r = []
theorem scan_meta (c : UInt8) (r : Bytes) (h : metaB c = true) : scan (c :: r) = .ok [] (c :: r) := by
 unfold scan fuel
 rw [show 4 * (c :: r).length + 3 = (4 * (c :: r).length + 2) + 1 from rfl, wordF, if_pos (by simp [h])]
theorem scan_nil : scan [] = .ok [] [] := by simp [scan, fuel, wordF]
theorem lost_idem {r : Bytes} : Lost (blanks r) ↔ Lost r := by unfold Lost; rw [blanks_idem]
theorem out_idem {r : Bytes} : Out (blanks r) ↔ Out r := by unfold Out; rw [lost_idem, blanks_idem]
theorem lost_head {r : Bytes} (h : Lost r) : ∃ c t, blanks r = c :: t ∧ metaB c = false := by
 cases hb : blanks r with
 | nil => exact absurd (by rw [hb]; exact scan_nil) (h [] [])
 | cons c t =>
  refine ⟨c, t, rfl, ?_⟩
  cases hm : metaB c
  ·rfl
  ·exact absurd (by rw [hb]; exact scan_meta c t hm) (h [] (c :: t))
theorem lost_ne {r : Bytes} (h : Lost r) : blanks r ≠ [] := by
 obtain ⟨c, t, e, _⟩ := lost_head h
 rw [e]; simp
theorem sgn_nil {r : Bytes} (h : blanks r = []) : sgn r = [] := by unfold sgn; rw [h]; rfl
theorem sgn_lost {r : Bytes} (h : Lost r) : sgn r = [] := by
 obtain ⟨c, t, e, hm⟩ := lost_head h
 unfold sgn
 rw [e]
 simp only [metaB, metas, List.contains_cons, Bool.or_eq_false_iff] at hm
 have hh : ∀ a : UInt8, (c == a) = false → (a == c) = false := by
  intro a; simp; intro h e; exact h e.symm
 simp only [signs, opL, List.isPrefixOf, hh _ hm.2.2.2.1, hh _ hm.2.2.1, hh _ hm.2.2.2.2.1, hh _ hm.2.2.2.2.2.1, hh _ hm.2.2.2.2.2.2.1, hh _ hm.2.2.2.2.2.2.2.1, hh _ hm.2.2.2.2.2.2.2.2.1, hh _ hm.2.2.2.2.2.2.2.2.2.1, Bool.false_and, Bool.false_eq_true, if_false]
theorem sgn_out {r : Bytes} (h : Out r) : sgn r = [] := h.elim sgn_lost sgn_nil
theorem peek_out {r : Bytes} (h : Out r) : peek r = ([], []) := by
 rcases h with h | h
 ·unfold peek
  cases hs : scan (blanks r) with
  | ok l r' => exact absurd hs (h l r')
  | err a e => rfl
 ·unfold peek; rw [h, scan_nil]
theorem peek_idem2 (r : Bytes) : peek (blanks r) = peek r := by unfold peek; rw [blanks_idem]
theorem lines_lost {r : Bytes} (h : Lost r) : lines r = blanks r := by
 obtain ⟨c, t, e, hm⟩ := lost_head h
 have hc : (c == 10) = false := by
  simp only [metaB, metas, List.contains_cons, Bool.or_eq_false_iff] at hm
  exact hm.2.2.1
 unfold lines
 rw [linesF, e]
 simp [hc]
theorem lines_nil {r : Bytes} (h : blanks r = []) : lines r = [] := by
 unfold lines
 rw [linesF, h]
theorem lines_out {r : Bytes} (h : Out r) : Out (lines r) := by
 rcases h with h | h
 ·rw [lines_lost h]; exact .inl (lost_idem.2 h)
 ·rw [lines_nil h]; exact .inr rfl
def Not {α : Type} (X : Rs α) : Prop := ∀ v r', X ≠ .ok v r'
def Eats {α : Type} (F : Bytes → Rs α) : Prop := ∀ r, Out r → Not (F r)
theorem not_bind {α β : Type} {X : Rs α} {f : α → Bytes → Rs β} (h : Not X) : Not (X.bind f) := by
 intro v r' e
 obtain ⟨a, r1, h1, _⟩ := bind_ok.1 e
 exact h _ _ h1
theorem not_bind2 {α β : Type} {X : Rs α} {f : α → Bytes → Rs β} (h : ∀ a r1, X = .ok a r1 → Not (f a r1)) : Not (X.bind f) := by
 intro v r' e
 obtain ⟨a, r1, h1, h2⟩ := bind_ok.1 e
 exact h _ _ h1 _ _ h2
theorem not_fail {α : Type} (r : Bytes) (e : Int) : Not (failS r e : Rs α) := by
 intro v r'
 unfold failS failP
 split <;> simp
theorem not_err {α : Type} (l : Nat) (e : Int) : Not (.err l e : Rs α) := by intro v r'; simp
theorem digit_plain (c : UInt8) (h : digit c = true) : metaB c = false ∧ (c == 92) = false ∧ (c == 39) = false ∧ (c == 34) = false ∧ (c == 96) = false ∧ (c == 36) = false := by
 have : 48 ≤ c.toNat ∧ c.toNat ≤ 57 := by
  have h2 : (48 : Int) ≤ (c.toNat : Int) ∧ (c.toNat : Int) ≤ 57 := by simpa [digit, digitB] using h
  omega
 have key : ∀ k : UInt8, (k.toNat < 48 ∨ 57 < k.toNat) → (c == k) = false := by
  intro k hk
  have : c ≠ k := by rintro rfl; omega
  simpa using this
 refine ⟨?_, key _ (by decide), key _ (by decide), key _ (by decide), key _ (by decide), key _ (by decide)⟩
 simp only [metaB, metas, List.contains_cons, key 32 (by decide), key 9 (by decide), key 10 (by decide), key 59 (by decide), key 38 (by decide), key 124 (by decide), key 60 (by decide), key 62 (by decide), key 40 (by decide), key 41 (by decide), Bool.false_or, List.contains_nil]
theorem scan_digit (c d : UInt8) (r : Bytes) (h : digit c = true) (hd : metaB d = true) : scan (c :: d :: r) = .ok [lit [c] false] (d :: r) := by
 obtain ⟨h0, h1, h2, h3, h4, h5⟩ := digit_plain c h
 unfold scan fuel
 rw [show 4 * (c :: d :: r).length + 3 = (4 * (c :: d :: r).length + 1 + 1) + 1 from rfl, wordF]
 simp only [h0, h1, h2, h3, h4, h5, Bool.false_and, Bool.not_false, Bool.true_and, Bool.or_self, Bool.false_eq_true, if_false]
 rw [wordF, if_pos (by simp [hd])]
 rfl
theorem fd_lost {r : Bytes} (h : Lost r) : fdP (blanks r) = (-1, blanks r) := by
 obtain ⟨c, t, e, hm⟩ := lost_head h
 rw [e]
 cases t with
 | nil => rfl
 | cons d t =>
  unfold fdP
  dsimp only
  split
  ·rename_i hd
   simp only [Bool.and_eq_true, Bool.or_eq_true, beq_iff_eq] at hd
   refine absurd (scan_digit c d t hd.1 ?_) (by have := h [lit [c] false] (d :: t); rwa [e] at this)
   rcases hd.2 with rfl | rfl <;> decide
  ·rfl
theorem redir_lost {wd : Bytes → Rs (List Part)} {r : Bytes} (h : Lost r) : redirP wd r = .ok none (blanks r) := by
 unfold redirP
 rw [fd_lost h]
 dsimp only
 rw [sgn_lost (lost_idem.2 h)]
 rfl
theorem redir_nil {wd : Bytes → Rs (List Part)} {r : Bytes} (h : blanks r = []) : redirP wd r = .ok none [] := by
 unfold redirP
 rw [h]
 rfl
theorem ok_inj {α : Type} {v v' : α} {r r' : Bytes} (h : (Rs.ok v r : Rs α) = .ok v' r') : v = v' ∧ r = r' := by simpa using h
section
variable {wd : Bytes → Rs (List Part)} {fn : Bytes → Bytes → Rs Cmd}
theorem simple_lost (hwd : Eats wd) (n : Nat) (xs : List Asg) (ws : List (List Part)) (rs : List Rdr) {r : Bytes} (h : Lost r) : Not (simpleF wd fn n xs ws rs r) := by
 cases n with
 | zero => rw [simpleF]; exact not_err _ _
 | succ n =>
  rw [simpleF, redir_lost h]
  simp only [Rs.bind, peek_out (.inl (lost_idem.2 h)), sgn_lost (lost_idem.2 h), blanks_idem]
  have hc : closing [] = false := by decide
  have hn : nameB [] = false := by decide
  have hne : (blanks r).isEmpty = false := by
   have := lost_ne h
   cases hb : blanks r with
   | nil => exact absurd hb this
   | cons c t => rfl
  simp only [hc, hn, hne, Bool.and_false, Bool.false_and, Bool.false_eq_true, if_false, bne_self_eq_false, Bool.or_self]
  exact not_bind (hwd _ (.inl (lost_idem.2 h)))
theorem simple_eats (hwd : Eats wd) (n : Nat) : Eats (simpleF wd fn n [] [] []) := by
 rintro r (h | h)
 ·exact simple_lost hwd n _ _ _ h
 ·cases n with
  | zero => rw [simpleF]; exact not_err _ _
  | succ n =>
   rw [simpleF, redir_nil h]
   simp only [Rs.bind]
   have hp : peek [] = ([], []) := peek_out (.inr rfl)
   rw [hp, show blanks [] = [] from rfl]
   have hc : closing [] = false := by decide
   simp only [hc, List.length_nil, Nat.add_zero, BEq.rfl, Bool.and_false, Bool.false_eq_true, if_false, List.isEmpty_nil, Bool.or_true, if_true]
   exact not_fail _ _
end
section
variable {wd : Bytes → Rs (List Part)} {ls : Bytes → Rs (List Lst)} {br : Bytes → Rs Cmd}
theorem comp_out {r : Bytes} (h : Out r) : compoundP wd ls br r = .ok none (blanks (blanks r)) := by
 unfold compoundP
 rw [sgn_out h, peek_idem2, peek_out h]
 rfl
end
section
variable {x : Bytes} (hx : Ends x) {D : Prop} {cmd cmd' : Bytes → Rs Cmd} {pipe pipe' : Bytes → Rs Pip} {list list' : Bytes → Rs Lst}
theorem pipeF_eats (hE : Eats cmd) (n : Nat) (neg : Bool) (cs : List Cmd) : Eats (pipeF cmd n neg cs) := by
 intro r h
 cases n with
 | zero => rw [pipeF]; exact not_err _ _
 | succ n => rw [pipeF]; exact not_bind (hE _ h)
theorem pipe_eats (hE : Eats cmd) : Eats (pipeP cmd) := by
 intro r h
 unfold pipeP
 rw [peek_out h, if_neg (by decide)]
 exact pipeF_eats hE _ _ _ _ (out_idem.2 h)
theorem listF_eats (hE : Eats pipe) (n : Nat) (ps : List Pip) (os : List Bytes) : Eats (listF pipe n ps os) := by
 intro r h
 cases n with
 | zero => rw [listF]; exact not_err _ _
 | succ n => rw [listF]; exact not_bind (hE _ h)
include hx
end
def Nz {α : Type} (X : Rs α) : Prop := ∀ l c, X = .err l c → c ≠ 0
theorem nz_bind {α β : Type} {X : Rs α} {f : α → Bytes → Rs β} (h : Nz X) (hf : ∀ a r, Nz (f a r)) : Nz (X.bind f) := by
 intro l c e
 cases X with
 | ok a r => exact hf a r l c e
 | err l' c' => exact h l c (by simpa [Rs.bind] using e)
theorem nz_ok {α : Type} (v : α) (r : Bytes) : Nz (.ok v r : Rs α) := by intro l c e; simp at e
theorem nz_failP {α : Type} (l : Nat) (e : Int) (h : e ≠ 0) : Nz (failP l e : Rs α) := by
 intro l' c he
 unfold failP at he
 split at he
 ·simp at he; omega
 ·simp at he; exact he.2 ▸ h
theorem nz_fail {α : Type} (r : Bytes) (e : Int) (h : e ≠ 0) : Nz (failS r e : Rs α) := nz_failP _ _ h
theorem nz_out {α : Type} : Nz (.err 0 (-1) : Rs α) := by intro l c e; simp at e; omega
theorem nz_ite {α : Type} {P : Prop} [Decidable P] {X Y : Rs α} (h1 : Nz X) (h2 : Nz Y) : Nz (if P then X else Y) := by split <;> assumption
theorem nz_must (s r : Bytes) : Nz (mustP s r) := nz_ite (nz_ok _ _) (nz_fail _ _ (by decide))
theorem nz_want (s r : Bytes) : Nz (wantP s r) := nz_ite (nz_ok _ _) (nz_fail _ _ (by decide))
section
variable {wd : Bytes → Rs (List Part)} {fn : Bytes → Bytes → Rs Cmd} {ls : Bytes → Rs (List Lst)} {lsd : Nat → Bytes → Rs (List Lst)} {br : Bytes → Rs Cmd} {comp : Bytes → Rs (Option Cmd)} {cmd : Bytes → Rs Cmd} {pipe : Bytes → Rs Pip} {list : Bytes → Rs Lst}
theorem nz_word (pe : Bytes → Int) (r : Bytes) : Nz (wordP pe r) := by
 unfold wordP
 cases h : scan (blanks r) with
 | err a e => exact nz_failP _ _ (scan_err _ _ _ h)
 | ok l r' =>
  dsimp only
  refine nz_ite (nz_fail _ _ (by decide)) ?_
  split
  ·rename_i h2
   exact nz_fail _ _ (by simpa using h2)
  ·exact nz_ok _ _
theorem nz_redir (hw : ∀ r, Nz (wd r)) (r : Bytes) : Nz (redirP wd r) := nz_ite (nz_bind (hw _) (fun _ _ => nz_ok _ _)) (nz_ite (nz_bind (hw _) (fun _ _ => nz_ok _ _)) (nz_ok _ _))
theorem nz_redirs (hw : ∀ r, Nz (wd r)) : ∀ (n : Nat) (rs : List Rdr) (r : Bytes), Nz (redirsF wd n rs r)
 | 0, _, _ => nz_out
 | n + 1, rs, r => by
  rw [redirsF]
  refine nz_bind (nz_redir hw r) (fun o r' => ?_)
  cases o with
  | none => exact nz_ok _ _
  | some y => exact nz_redirs hw n _ r'
theorem nz_simple (hw : ∀ r, Nz (wd r)) (hf : ∀ n r, Nz (fn n r)) : ∀ (n : Nat) (xs : List Asg) (ws : List (List Part)) (rs : List Rdr) (r : Bytes), Nz (simpleF wd fn n xs ws rs r)
 | 0, _, _, _, _ => nz_out
 | n + 1, xs, ws, rs, r => by
  rw [simpleF]
  refine nz_bind (nz_redir hw r) (fun o b => ?_)
  cases o with
  | some y => exact nz_simple hw hf n _ _ _ b
  | none =>
   refine nz_ite (nz_fail _ _ (by decide)) (nz_ite (nz_ite (nz_fail _ _ (by decide)) (nz_ok _ _)) (nz_ite (hf _ _) (nz_bind (hw _) (fun l b' => ?_))))
   cases assigned l with
   | none => exact nz_simple hw hf n _ _ _ b'
   | some a =>
    cases ws.isEmpty with
    | true => exact nz_simple hw hf n _ _ _ b'
    | false => exact nz_simple hw hf n _ _ _ b'
theorem nz_loop (hl : ∀ r, Nz (ls r)) (r : Bytes) : Nz (loopP ls r) := nz_bind (nz_must _ _) (fun _ _ => nz_bind (hl _) (fun _ _ => nz_bind (nz_must _ _) (fun _ _ => nz_ok _ _)))
theorem nz_words (hw : ∀ r, Nz (wd r)) : ∀ (n : Nat) (ws : List (List Part)) (r : Bytes), Nz (wordsF wd n ws r)
 | 0, _, _ => nz_out
 | n + 1, ws, r => by rw [wordsF]; exact nz_ite (nz_ok _ _) (nz_bind (hw _) (fun _ _ => nz_words hw n _ _))
theorem nz_each (hw : ∀ r, Nz (wd r)) (hl : ∀ r, Nz (ls r)) (r : Bytes) : Nz (eachP wd ls r) :=
 nz_ite (nz_bind (nz_ite (nz_words hw _ _ _) (nz_ok _ _)) (fun _ _ => nz_bind (nz_loop hl _) (fun _ _ => nz_ok _ _))) (nz_fail _ _ (by decide))
theorem nz_pats (hw : ∀ r, Nz (wd r)) : ∀ (n : Nat) (ws : List (List Part)) (r : Bytes), Nz (patsF wd n ws r)
 | 0, _, _ => nz_out
 | n + 1, ws, r => by rw [patsF]; exact nz_bind (hw _) (fun _ _ => nz_ite (nz_pats hw n _ _) (nz_ok _ _))
theorem nz_cases (hw : ∀ r, Nz (wd r)) (hl : ∀ r, Nz (ls r)) : ∀ (n : Nat) (cs : List Cas) (r : Bytes), Nz (casesF wd ls n cs r)
 | 0, _, _ => nz_out
 | n + 1, cs, r => by
  rw [casesF]
  exact nz_ite (nz_ok _ _) (nz_bind (nz_pats hw _ _ _) (fun _ _ => nz_bind (nz_want _ _) (fun _ _ => nz_bind (nz_ite (nz_ok _ _) (hl _)) (fun _ _ => nz_ite (nz_cases hw hl n _ _) (nz_bind (nz_must _ _) (fun _ _ => nz_ok _ _))))))
theorem nz_choice (hw : ∀ r, Nz (wd r)) (hl : ∀ r, Nz (ls r)) (r : Bytes) : Nz (choiceP wd ls r) :=
 nz_bind (hw _) (fun _ _ => nz_bind (nz_must _ _) (fun _ _ => nz_bind (nz_cases hw hl _ _ _) (fun _ _ => nz_ok _ _)))
theorem nz_branch (hl : ∀ d r, Nz (lsd d r)) : ∀ (n d : Nat) (r : Bytes), Nz (branchF lsd n d r)
 | 0, _, _ => nz_out
 | n + 1, d, r => by
  rw [branchF]
  exact nz_bind (hl _ _) (fun _ _ => nz_bind (nz_must _ _) (fun _ _ => nz_bind (hl _ _) (fun _ _ => nz_ite (nz_ite (nz_fail _ _ (by decide)) (nz_bind (nz_branch hl n _ _) (fun _ _ => nz_ok _ _)))
   (nz_ite (nz_bind (hl _ _) (fun _ _ => nz_bind (nz_must _ _) (fun _ _ => nz_ok _ _))) (nz_bind (nz_must _ _) (fun _ _ => nz_ok _ _))))))
theorem nz_comp (hw : ∀ r, Nz (wd r)) (hl : ∀ r, Nz (ls r)) (hb : ∀ r, Nz (br r)) (r : Bytes) : Nz (compoundP wd ls br r) :=
 nz_ite (nz_bind (hl _) (fun _ _ => nz_bind (nz_want _ _) (fun _ _ => nz_ok _ _))) (nz_ite (nz_bind (hl _) (fun _ _ => nz_bind (nz_must _ _) (fun _ _ => nz_ok _ _))) (nz_ite (nz_bind (hb _) (fun _ _ => nz_ok _ _))
  (nz_ite (nz_bind (hl _) (fun _ _ => nz_bind (nz_loop hl _) (fun _ _ => nz_ok _ _))) (nz_ite (nz_bind (nz_each hw hl _) (fun _ _ => nz_ok _ _)) (nz_ite (nz_bind (nz_choice hw hl _) (fun _ _ => nz_ok _ _)) (nz_ok _ _))))))
theorem nz_function (hw : ∀ r, Nz (wd r)) (hc : ∀ r, Nz (comp r)) (d : Nat) (name r : Bytes) : Nz (functionP wd d comp name r) := by
 unfold functionP
 refine nz_bind (nz_want _ _) (fun _ r1 => nz_ite (nz_fail _ _ (by decide)) (nz_bind (hc _) (fun o r2 => ?_)))
 cases o with
 | none => exact nz_fail _ _ (by decide)
 | some c => exact nz_bind (nz_redirs hw _ _ _) (fun _ _ => nz_ok _ _)
theorem nz_pipeF (hc : ∀ r, Nz (cmd r)) : ∀ (n : Nat) (neg : Bool) (cs : List Cmd) (r : Bytes), Nz (pipeF cmd n neg cs r)
 | 0, _, _, _ => nz_out
 | n + 1, neg, cs, r => by rw [pipeF]; exact nz_bind (hc _) (fun _ _ => nz_ite (nz_pipeF hc n _ _ _) (nz_ok _ _))
theorem nz_pipe (hc : ∀ r, Nz (cmd r)) (r : Bytes) : Nz (pipeP cmd r) := nz_ite (nz_pipeF hc _ _ _ _) (nz_pipeF hc _ _ _ _)
theorem nz_listF (hp : ∀ r, Nz (pipe r)) : ∀ (n : Nat) (ps : List Pip) (os : List Bytes) (r : Bytes), Nz (listF pipe n ps os r)
 | 0, _, _, _ => nz_out
 | n + 1, ps, os, r => by rw [listF]; exact nz_bind (hp _) (fun _ _ => nz_ite (nz_listF hp n _ _ _) (nz_ok _ _))
theorem nz_listsF (hl : ∀ r, Nz (list r)) : ∀ (n : Nat) (first : Bool) (ls : List Lst) (r : Bytes), Nz (listsF list n first ls r)
 | 0, _, _, _ => nz_out
 | n + 1, first, ls, r => by
  rw [listsF]
  exact nz_ite (nz_bind (hl _) (fun _ _ => nz_ite (nz_listsF hl n _ _ _) (nz_ite (nz_listsF hl n _ _ _) (nz_ite (nz_listsF hl n _ _ _) (nz_fail _ _ (by decide)))))) (nz_ok _ _)
theorem nz_parse (hl : ∀ r, Nz (ls r)) (s : Bytes) : Nz (parseG ls s) := nz_bind (nz_ite (nz_ok _ _) (hl _)) (fun _ _ => nz_ite (nz_ok _ _) (nz_fail _ _ (by decide)))
end
structure NzAll (n : Nat) : Prop where
 lists : ∀ d r, Nz (lists n d r)
 command : ∀ d r, Nz (command n d r)
 compound : ∀ d r, Nz (compound n d r)
 word : ∀ d r, Nz (wordS n d r)
 parse : ∀ d r, Nz (parseF n d r)
theorem nz_all : ∀ n, NzAll n
 | 0 => ⟨fun d r => by rw [lists]; exact nz_out, fun d r => by rw [command]; exact nz_out, fun d r => by rw [compound]; exact nz_out, fun d r => by rw [wordS]; exact nz_out, fun d r => by rw [parseF]; exact nz_out⟩
 | n + 1 => by
  obtain ⟨h1, h2, h3, h4, h5⟩ := nz_all n
  refine ⟨fun d r => ?_, fun d r => ?_, fun d r => ?_, fun d r => ?_, fun d r => ?_⟩
  ·rw [lists]; exact nz_ite (nz_fail _ _ (by decide)) (nz_listsF (fun r => nz_listF (fun r => nz_pipe (h2 _) r) _ _ _ r) _ _ _ _)
  ·rw [command]
   refine nz_bind (h3 _ _) (fun o r1 => ?_)
   cases o with
   | some c => exact nz_bind (nz_redirs (h4 _) _ _ _) (fun _ _ => nz_ok _ _)
   | none => exact nz_simple (h4 _) (fun n r => nz_function (h4 _) (h3 _) _ _ _) _ _ _ _ _
  ·rw [compound]; exact nz_comp (h4 _) (h1 _) (nz_branch (fun d r => h1 d r) _ _) r
  ·rw [wordS]; exact nz_word _ _
  ·rw [parseF]; exact nz_parse (h1 _) _
section
variable {x : Bytes} (hx : Ends x) {D : Prop} {pe pe' : Bytes → Int}
theorem word_eats (pe : Bytes → Int) : Eats (wordP pe) := by
 rintro r (h | h)
 ·unfold wordP
  cases hs : scan (blanks r) with
  | ok l r' => exact absurd hs (h l r')
  | err a e =>
   intro v r'
   unfold failP
   dsimp only
   split <;> simp
 ·unfold wordP
  rw [h, scan_nil]
  exact not_fail _ _
include hx
end
structure EatAll (n : Nat) : Prop where
 lists : ∀ d, Eats (lists n d)
 command : ∀ d, Eats (command n d)
 compound : ∀ d r, Out r → ∀ c r', compound n d r ≠ .ok (some c) r'
 word : ∀ d, Eats (wordS n d)
theorem eat_all : ∀ n, EatAll n
 | 0 => ⟨fun d r _ => by rw [lists]; exact not_err _ _, fun d r _ => by rw [command]; exact not_err _ _, fun d r _ c r' => by rw [compound]; simp, fun d r _ => by rw [wordS]; exact not_err _ _⟩
 | n + 1 => by
  obtain ⟨h1, h2, h3, h4⟩ := eat_all n
  refine ⟨fun d r h => ?_, fun d r h => ?_, fun d r h c r' => ?_, fun d r h => ?_⟩
  ·rw [lists]
   split
   ·exact not_fail _ _
   ·rw [listsF]
    simp only [Bool.true_or, if_true]
    exact not_bind (listF_eats (pipe_eats (h2 _)) _ _ _ _ (lines_out h))
  ·rw [command]
   refine not_bind2 (fun o r1 e => ?_)
   cases o with
   | some c => exact absurd e (h3 d r h c r1)
   | none =>
    cases n with
    | zero => rw [compound] at e; simp at e
    | succ n =>
     rw [compound, comp_out h] at e
     obtain ⟨_, rfl⟩ := ok_inj e
     exact simple_eats (h4 d) _ _ (out_idem.2 (out_idem.2 h))
  ·rw [compound, comp_out h]
   simp
  ·rw [wordS]; exact word_eats _ r h
def lstAt (n d k : Nat) : Bytes → Rs Lst := listF (pipeP (command n (d + 1))) k [] []
theorem lstAt_eats (n d k : Nat) : Eats (lstAt n d k) := listF_eats (pipe_eats ((eat_all n).command _)) k [] []
end Go.Proofs.YtdfnkmiabmjolaaGreatDoor
namespace Go.Proofs.YtdfnkmiabmjolaaGreatDoor
open Go.RowKit
theorem wordP_wts (pe : Bytes → Int) (r r' : Bytes) (l : List Part) (e : wordP pe r = .ok l r') : Part.wts l ≤ 2 * r.length + 1 := by
 have hb := blanks_le r
 unfold wordP at e
 cases hs : scan (blanks r) with
 | err a c =>
  rw [hs] at e
  unfold failP at e
  dsimp only at e
  split at e <;> simp at e
 | ok l1 r1 =>
  rw [hs] at e
  have hl := (scan_ok _ _ _ hs).2
  dsimp only at e
  split at e
  ·unfold failS failP at e; split at e <;> simp at e
  ·split at e
   ·unfold failS failP at e; split at e <;> simp at e
   ·simp only [Rs.ok.injEq] at e
    obtain ⟨rfl, rfl⟩ := e
    split
    ·simp [lit, Part.wts, Part.wt]
    ·omega
theorem wordS_wts (n d : Nat) (r : Bytes) (l : List Part) (r' : Bytes) (e : wordS n d r = .ok l r') : Part.wts l ≤ 2 * r.length + 1 := by
 cases n with
 | zero => simp [wordS] at e
 | succ n => rw [wordS] at e; exact wordP_wts _ _ _ _ e
theorem branch_said (lsd : Nat → Bytes → Rs (List Lst)) (m : Nat) (hls : ∀ d, d ≤ 17 → LsSaid (lsd d) d m) (hll : ∀ d, Le (lsd d)) : ∀ (f d : Nat), d ≤ 17 → ∀ (g : Nat) (s : ByteArray) (r : Bytes) (w : World), ParsR w g s r d → s.size ≤ 8192 → r.length ≤ m → r.length < f →
  Calls Tryz.prog 117 #[.pointer (some ⟨g, 0, none⟩)] w (PPost w g s d (branchF lsd f d r) (isCmd0 w))
 | 0, _, _, _, _, _, _, _, _, _, h => absurd h (Nat.not_lt_zero _)
 | f + 1, d, hd, g, s, r, w, h, hs, hm, hf => by
  refine branch_step lsd f d (by omega) m (hls d hd) (hll d) g s r w h hs hm ?_
  intro hd' r' w' h' hr'
  exact branch_said lsd m hls hll f (d + 1) (by omega) g s r' w' h' hs (by omega) (by omega)
structure Knot (n : Nat) : Prop where
 lists : ∀ d, d ≤ 18 → ∀ m, 4 * m + 4 ≤ n → LsSaid (lists n d) d m
 command : ∀ d, d ≤ 16 → ∀ m, 4 * m + 3 ≤ n → CmdSaid (command n d) d m
 compound : ∀ d : Nat, d ≤ 17 → ∀ m, 4 * m + 1 ≤ n → ∀ (g : Nat) (s : ByteArray) (r : Bytes) (w : World), ParsR w g s r d → s.size ≤ 8192 → r.length ≤ m → Calls Tryz.prog 98 #[.pointer (some ⟨g, 0, none⟩)] w (PPost w g s d (compound n d r) (isComp w))
 word : ∀ d, d ≤ 17 → ∀ m, 4 * m + 2 ≤ n → WdSaid (wordS n d) d m
 parse : ∀ d : Nat, d ≤ 18 → ∀ m, 4 * m + 5 ≤ n ∨ (m = 0 ∧ 1 ≤ n) → ∀ (s : ByteArray) (w : World), s.size ≤ 8192 → s.size ≤ m → Calls Tryz.prog 18 #[.string s, .int .i64 d] w (ParseEnd w s (parseF n d s.data.toList))
set_option maxHeartbeats 1000000 in
theorem knot : ∀ n, Knot n
 | 0 => ⟨fun _ _ _ h => by omega, fun _ _ _ h => by omega, fun _ _ _ h => by omega, fun _ _ _ h => by omega, fun _ _ _ h => by omega⟩
 | n + 1 => by
  obtain ⟨k1, k2, k3, k4, k5⟩ := knot n
  obtain ⟨l1, l2, l3, l4⟩ := le_all n
  refine ⟨?_, ?_, ?_, ?_, ?_⟩
  ·intro d hd m hm g s r w h hs hr
   rw [lists]
   refine lists_calls (listF (pipeP (command n (d + 1))) (r.length + 1) [] []) d (by omega) r.length ?_ ?_ r.length g s r w h hs (Nat.le_refl _) (Nat.le_refl _)
   ·intro h16 g s r' w h hs hr'
    refine list_calls (pipeP (command n (d + 1))) (d + 1 : Nat) r.length ?_ ?_ r.length g s r' w h hs hr' hr'
    ·intro g s r2 w h hs hr2
     exact pipe_calls (command n (d + 1)) (d + 1 : Nat) r.length (k2 (d + 1) h16 r.length (by omega)) (fun r c r1 e => l2 _ _ _ _ e) g s r2 w h hs hr2
    ·exact fun r c r1 e => le_pipe (l2 _) _ _ _ e
   ·intro r' c r1 e
    refine ⟨le_listF (le_pipe (l2 _)) _ _ _ _ _ _ e, ?_⟩
    rcases Nat.eq_zero_or_pos r'.length with h0 | h0
    ·obtain rfl := List.eq_nil_of_length_eq_zero h0
     exact absurd e (lstAt_eats n d _ _ (Or.inr (by first | rfl | simp [blanks])) _ _)
    ·exact h0
  ·intro d hd m hm g s r w h hs hr
   rw [command]
   refine command_calls (wordS n d) (compound n d) (fun r1 => simpleF (wordS n d) (functionP (wordS n (d + 1)) d (compound n (d + 1))) (r1.length + 1) [] [] [] r1) d m (k4 d (by omega) m (by omega)) (l4 d) (k3 d (by omega) m (by omega)) ?_ (fun r o r1 e => l3 _ _ _ _ e) g s r w h hs hr
   intro g s r1 w h hs hr1
   refine simple_calls (wordS n d) (functionP (wordS n (d + 1)) d (compound n (d + 1))) d m (k4 d (by omega) m (by omega)) (l4 d) (wordS_wts n d) ?_ r1.length g s r1 w h hs hr1 (Nat.le_refl _)
   intro name g s r2 w h hs hr2
   exact function_calls (wordS n (d + 1)) (compound n (d + 1)) d (by omega) m (k4 (d + 1) (by omega) m (by omega)) (l4 _) (k3 (d + 1) (by omega) m (by omega)) (fun r o r1 e => l3 _ _ _ _ e) g s r2 name w h hs hr2
  ·intro d hd m hm g s r w h hs hr
   rw [compound]
   refine compound_calls (wordS n d) (lists n d) (branchF (fun d' => lists n d') (r.length + 1) d) d (r.length - 1) (l1 d) g s r w h hs (by omega) ?_ ?_ ?_ ?_
   ·intro h1; exact k1 d (by omega) _ (by omega)
   ·intro h1 g s r' w h hs hr'
    exact branch_said (fun d' => lists n d') (r.length - 1) (fun d hd => k1 d (by omega) _ (by omega)) l1 (r.length + 1) d hd g s r' w h hs hr' (by omega)
   ·intro h1 g s r' w h hs hr'
    exact each_calls (wordS n d) (lists n d) d (r.length - 1) (k4 d hd _ (by omega)) (l4 d) (k1 d (by omega) _ (by omega)) g s r' w h hs hr'
   ·intro h1 g s r' w h hs hr'
    exact choice_calls (wordS n d) (lists n d) d (r.length - 1) (k4 d hd _ (by omega)) (l4 d) (k1 d (by omega) _ (by omega)) (l1 d) g s r' w h hs hr'
  ·intro d hd m hm g s r w h hs hr
   rw [wordS]
   refine pword_calls (fun t => codeOf (parseF n (d + 1) t)) d (by omega) g s r w h hs ?_
   intro t w ht
   have hrl := h.len
   have hp := k5 (d + 1) (by omega) (r.length - 3) (by omega) (bstr t) w (by rw [bstr_size]; omega) (by rw [bstr_size]; omega)
   rw [bstr_toList] at hp
   refine hp.mono ?_
   rintro e w' ⟨hC, hp⟩
   refine ⟨?_, hC⟩
   cases hq : parseF n (d + 1) t with
   | ok l r2 =>
    rw [hq] at hp
    obtain ⟨A, c, rfl, _⟩ := hp
    exact ⟨A, l.length, c, 0, by dsimp only; rw [hq]; rfl⟩
   | err left c =>
    rw [hq] at hp
    obtain ⟨rfl, _⟩ := hp
    exact ⟨none, 0, 0, ((bstr t).size - left : Nat), by dsimp only; rw [hq]; rfl⟩
  ·intro d hd m hm s w hs hsm
   rw [parseF]
   exact parse_calls (lists n d) d m s w hs hsm (fun h1 => k1 d hd m (by omega))
set_option maxRecDepth 100000 in
set_option maxHeartbeats 2000000 in
theorem Parse_calls (s : ByteArray) (w : World) (n : Nat) (hn : 4 * s.size + 5 ≤ n) (hs : s.size ≤ 8192) :
  Calls Tryz.prog 10 #[.string s] w (ParseEnd w s (parseF n 0 s.data.toList)) := by
 have hP := (knot n).parse 0 (by omega) s.size (.inl hn) s
 have h1 : decide ((8192 : Int) < (s.size : Int)) = false := by simp; omega
 have h2 : decide (8192 < s.size) = false := by simp; omega
 generalize parseF n 0 s.data.toList = R at *
 go_enter Tryz.func10, Tryz.ntmps10
 go_wp2_with fail
 refine (hP w hs (Nat.le_refl _)).mono ?_
 rintro e w' ⟨hC, hp⟩
 cases R with
 | ok l r =>
  obtain ⟨A, c, rfl, hO⟩ := hp
  go_wp2
  refine bodyPost_ret (v := .tuple #[.slice A l.length c, .int .i64 0, .int .i64 0]) (by simp [results, Tryz.results10, go_sem]) rfl ?_
  exact ⟨hC, A, c, rfl, hO⟩
 | err left c =>
  obtain ⟨rfl, hle⟩ := hp
  go_wp2
  refine bodyPost_ret (v := .tuple #[.slice none 0 0, .int .i64 (s.size - left : Nat), .int .i64 c]) (by simp [results, Tryz.results10, go_sem]) rfl ?_
  exact ⟨hC, rfl, hle⟩
theorem wknot : ∀ n, WLs n ∧ WLt n ∧ WCm n
 | 0 => ⟨fun _ _ _ _ _ _ h => absurd h (Nat.not_lt_zero _), fun _ _ _ _ _ _ h => absurd h (Nat.not_lt_zero _), fun _ _ _ _ _ _ h => absurd h (Nat.not_lt_zero _)⟩
 | n + 1 => by
  obtain ⟨h1, h2, h3⟩ := wknot n
  exact ⟨wlists_step n h2, wlist_step n h3, wcmd_step n h1 h2⟩
def wAll (ls : List Lst) : Wr := wLists ⟨[], false⟩ ls
def printL (ls : List Lst) : Option Bytes :=
 if (wAll ls).bad || decide (8192 < (wAll ls).out.length) then none
 else match parseF (4 * (wAll ls).out.length + 5) 0 (wAll ls).out with
  | .ok m _ => if sameLs m ls then some (wAll ls).out else none
  | .err _ _ => none
theorem wv_new (w : World) : WV w.heap.size (.slice none 0 0) ⟨[], false⟩ (w.alloc (.cells #[.pointer none, .slice none 0 0, .bool false] 56)) :=
 ⟨.pointer none, .inl rfl, row_new w _, World.ownsRow_nil _ _ _ _, by simp [Value.ownBlock]⟩
set_option maxRecDepth 100000 in
set_option maxHeartbeats 4000000 in
theorem lprint_calls (w : World) (S : Nat → Prop) (v : Value) (ls : List Lst) (hb : 64 * greatLs ls ≤ 600000) (hm : HM w) (hfd : fdLs ls) (h : Rep w S (.sl 39 2 (Lst.ds ls)) [v]) :
  Calls Tryz.prog 9 #[v] w fun e w' => e = .returned (.tuple #[.string (strOf (printL ls)), .int .i64 (errOf (printL ls))]) ∧ Chg (fun _ => False) w w' := by
 have hb0 := h.bound.mono (S' := fun k => k < w.heap.size) (fun _ h _ => h.2)
 have hca : Chg (fun _ => False) w (w.alloc (.cells #[.pointer none, .slice none 0 0, .bool false] 56)) := (Chg.refl _ w).alloc _
 have hwl := wLists_len ls ⟨[], false⟩
 simp only [List.length_nil, Nat.zero_add] at hwl
 have h0 : 0 < w.heap.size := by
  obtain ⟨m, hm0⟩ := hm
  exact World.block_lt_of_cell? w _ hm0
 have HW := Lib.hid ((wknot (SizeOf.sizeOf ls + 1)).1 w.heap.size (.slice none 0 0) ⟨[], false⟩ _ v ls (Nat.lt_succ_self _) (wv_new w) h0 (hm.stay hca (fun e => e)) hfd (by simpa using hb) (hb0.stay hca (fun _ _ e => e)))
 generalize hr : printL ls = r
 unfold printL at hr
 rw [← wAll] at hwl
 have HW2 : Hid (Calls Tryz.prog 16 #[.pointer (some ⟨w.heap.size, 0, none⟩), v] (w.alloc (.cells #[.pointer none, .slice none 0 0, .bool false] 56)) fun e w' => e = .returned (.tuple #[]) ∧ ∃ v1, WV w.heap.size v1 (wAll ls) w' ∧ Chg (fun _ => False) w w') :=
  Lib.hid (by
   refine Calls.mono HW.out ?_
   rintro e w1 ⟨rfl, v1, hv1, hc1, _⟩
   exact ⟨rfl, v1, hv1, hca.trans (hc1.mono (B' := fun k => w.heap.size ≤ k) (fun k hk _ => by
    rcases hk with e | e
    ·show w.heap.size ≤ k; omega
    ·simp [Value.ownBlock] at e)) (fun k hk hl => by have hk' : w.heap.size ≤ k := hk; omega)⟩)
 obtain ⟨A, l, c, rfl⟩ := sl_formN h
 clear HW hca hb0
 generalize wAll ls = x at *
 have HR := Lib.hid hr; clear hr
 have hsz : (bstr x.out).size = x.out.length := bstr_size _
 go_enter Tryz.func9, Tryz.ntmps9
 go_wp2_with fail
 refine Calls.mono HW2.out ?_
 rintro e w1 ⟨rfl, v1, hv1, hC1⟩
 clear HW2
 have HT := Lib.hid (wstring_calls _ _ _ _ hv1)
 have hbd := hv1.row.1
 go_wp2_with fail
 refine Calls.mono HT.out ?_
 rintro e w2 ⟨rfl, hC2⟩
 clear HT
 have hC3 : Chg (fun _ => False) w w2 := hC1.trans hC2 (fun k hk hl => by have hk' : w.heap.size + 1 ≤ k := hk; omega)
 have hbd2 := hC2.cell hbd (by simp)
 clear hv1 hbd hC1 hC2 hm h0 hb hfd
 cases hxb : x.bad with
 | true =>
  rw [hxb] at hbd2
  have hr : Hid (r = none) := Lib.hid (by rw [← HR.out, hxb]; rfl)
  clear HR h
  go_wp2
  go_ret2
  exact ⟨by rw [hr.out]; rfl, hC3⟩
 | false =>
  rw [hxb] at hbd2
  by_cases hl : 8192 < x.out.length
  ·have q1 : decide ((8192 : Int) < ((bstr x.out).size : Int)) = true := by simp; omega
   have hr : Hid (r = none) := Lib.hid (by rw [← HR.out, hxb]; simp [hl])
   clear HR h
   go_wp2
   go_ret2
   exact ⟨by rw [hr.out]; rfl, hC3⟩
  ·have q1 : decide ((8192 : Int) < ((bstr x.out).size : Int)) = false := by simp; omega
   have HP := Parse_calls (bstr x.out) w2 (4 * x.out.length + 5) (by omega) (by omega)
   rw [bstr_toList] at HP
   have hr : Hid (r = match parseF (4 * x.out.length + 5) 0 x.out with | .ok m _ => if sameLs m ls then some x.out else none | .err _ _ => none) := Lib.hid (by rw [← HR.out, hxb]; simp [hl])
   clear HR
   have h2 := h.stay hC3 (fun _ _ e => e)
   have hnz : ∀ left c, parseF (4 * x.out.length + 5) 0 x.out = .err left c → c ≠ 0 := fun left c e => (nz_all _).parse _ _ _ _ e
   generalize hR : parseF (4 * x.out.length + 5) 0 x.out = R at *
   clear hR h hl hxb hwl hsz
   generalize hbo : bstr x.out = bo at *
   have HBO := Lib.hid hbo; clear hbo
   go_wp2_with fail
   refine Calls.mono HP ?_
   clear HP
   rintro e w3 ⟨hC4, hp⟩
   have hC5 := hC3.trans hC4 (fun _ h _ => h)
   cases R with
   | err left c =>
    obtain ⟨rfl, hle⟩ := hp
    have hc := hnz left c rfl
    have q5 : (c == 0) = false := by simpa using hc
    have q6 : (c != 0) = true := by simpa using hc
    have hr2 : Hid (r = none) := Lib.hid (by rw [hr.out])
    clear hr hnz hc h2 hC4
    go_wp2
    go_ret2
    exact ⟨by rw [hr2.out]; rfl, hC5⟩
   | ok m rr =>
    obtain ⟨B, cc, rfl, hO⟩ := hp
    have hS := Lib.hid (psame_calls w3 _ S _ _ m ls hO (h2.stay hC4 (fun _ _ e => e)))
    have hr2 : Hid (r = if sameLs m ls then some x.out else none) := Lib.hid (by rw [hr.out])
    clear hr hnz h2 hC4 hO
    generalize hbq : sameLs m ls = bq at *
    clear hbq
    cases bq with
    | true =>
     have hr3 : Hid (r = some x.out) := Lib.hid (by rw [hr2.out]; rfl)
     clear hr2
     go_wp2_with fail
     refine Calls.mono hS.out ?_
     rintro e w4 ⟨rfl, hC6⟩
     have hC7 := hC5.trans hC6 (fun _ h _ => h)
     clear hS
     go_wp2
     go_ret2
     exact ⟨by rw [hr3.out, ← HBO.out]; rfl, hC7⟩
    | false =>
     have hr3 : Hid (r = none) := Lib.hid (by rw [hr2.out]; rfl)
     clear hr2
     go_wp2_with fail
     refine Calls.mono hS.out ?_
     rintro e w4 ⟨rfl, hC6⟩
     have hC7 := hC5.trans hC6 (fun _ h _ => h)
     clear hS
     go_wp2
     go_ret2
     exact ⟨by rw [hr3.out]; rfl, hC7⟩
def wd1 (c : UInt8) : List Part := [.mk 1 false [c] [] []]
def lstsP : List Lst := [.mk [.mk false [.mk 1 [] [] [wd1 97] [] [] [] [] [⟨1, [62], wd1 102⟩]], .mk false [.mk 1 [] [] [wd1 98] [] [] [] [] []]] [[38, 38]]]
theorem awake_p : parseF 29 0 [97, 62, 102, 38, 38, 98] = .ok lstsP [] := by kernel_rfl
theorem awake_w : printL lstsP = some [49, 62, 102, 32, 97, 32, 38, 38, 32, 98, 10] := by kernel_rfl
theorem lstsP_great : 64 * greatLs lstsP ≤ 600000 := by decide +kernel
theorem lstsP_fds : fdLs lstsP := by simp [lstsP, fdLs, Lst.fds, fdPips, Pip.fds, fdCmds, Cmd.fds, fdCas, Rdr.fdOk]
set_option maxRecDepth 100000 in
set_option maxHeartbeats 2000000 in
theorem pawake_calls (w : World) (hm : HM w) : Calls Tryz.prog 8 #[] w fun e w' => e = .returned (.bool true) ∧ Chg (fun _ => False) w w' := by
 have P1 := Parse_calls ⟨#[97, 62, 102, 38, 38, 98]⟩ w 29 (by decide) (by decide)
 rw [show parseF 29 0 ((⟨#[97, 62, 102, 38, 38, 98]⟩ : ByteArray).data.toList) = .ok lstsP [] from awake_p] at P1
 go_enter Tryz.func8, Tryz.ntmps8
 go_wp2_with fail
 refine Calls.mono P1 ?_
 clear P1
 rintro e w1 ⟨hC1, A1, c1, rfl, hO1⟩
 have hm1 := hm.stay hC1 (fun e => e)
 have P2 := lprint_calls w1 _ _ lstsP lstsP_great hm1 lstsP_fds hO1
 rw [awake_w] at P2
 clear hO1 hm hm1
 go_wp2_with fail
 refine Calls.mono P2 ?_
 clear P2
 rintro e w2 ⟨rfl, hC2⟩
 have hC := hC1.trans hC2 (fun _ h _ => h)
 clear hC1 hC2
 simp only [strOf, errOf]
 have hst : ((bstr [49, 62, 102, 32, 97, 32, 38, 38, 32, 98, 10]).toList == [49, 62, 102, 32, 97, 32, 38, 38, 32, 98, 10]) = true := by rw [ByteArray.toList_eq, bstr_toList]; rfl
 go_wp2
 go_ret
 exact ⟨rfl, hC⟩
set_option maxRecDepth 100000 in
set_option maxHeartbeats 4000000 in
theorem rwords_calls (w : World) (S1 S2 : Nat → Prop) (v1 v2 : Value) (l1 l2 : List (List Part)) (h1 : Rep w S1 (wordsD l1) [v1]) (h2 : Rep w S2 (wordsD l2) [v2]) :
  Calls Tryz.prog 37 #[v1, v2] w fun e w' => e = .returned (.bool (sameWords l1 l2)) ∧ ∃ m, w' = w.drewN m := by
 unfold wordsD at h1 h2
 obtain ⟨B1, d1, rfl⟩ := sl_form2 h1
 obtain ⟨B2, d2, rfl⟩ := sl_form2 h2
 rw [List.length_map] at h1 h2
 have hx1 := rep_max h1
 rw [List.length_map] at hx1
 rw [List.length_map, List.length_map]
 unfold sameWords
 by_cases hl : l1.length = l2.length
 ·have t1 : ((l1.length : Int) != (l2.length : Int)) = false := by simp; omega
  generalize hR : eqAll beqs l1 l2 = R
  have HR := Lib.hid hR; clear hR
  have HL := Lib.hid hl; clear hl
  go_enter Tryz.func37, Tryz.ntmps37
  go_wp2
  go_loopg [5] l1.length (fun rk i wr => ∃ k : Nat, k + rk = l1.length ∧ i = .int .i64 k ∧ (∃ m, wr = w.drewN m) ∧ Hid (eqAll beqs (l1.drop k) (l2.drop k) = R))
  case atStart => exact ⟨0, by omega, rfl, ⟨0, rfl⟩, Lib.hid (by simpa using HR.out)⟩
  case round =>
   obtain ⟨k, hk, rfl, ⟨m, hm⟩, HK⟩ := hrel
   have hC : Chg (fun _ => False) w wr := by rw [hm]; exact (Chg.refl _ w).drewN m
   have h1' := h1.stay hC (fun _ _ e => e)
   have h2' := h2.stay hC (fun _ _ e => e)
   clear h1 h2 hC
   have HM := Lib.hid hm; clear hm
   by_cases hlt : k < l1.length
   ·obtain ⟨p1, hp1⟩ : ∃ p, l1[k]? = some p := ⟨l1[k], List.getElem?_eq_getElem hlt⟩
    obtain ⟨p2, hp2⟩ : ∃ p, l2[k]? = some p := ⟨l2[k]'(by rw [← HL.out]; exact hlt), List.getElem?_eq_getElem (by rw [← HL.out]; exact hlt)⟩
    have HB := Lib.hid (eqAll_drop beqs l1 l2 k p1 p2 hp1 hp2)
    obtain ⟨b1, o1, c1', cs1, hv1, _, _, hb1, hr1, hl1, hcs1⟩ := sl_get h1' (by omega) k (wordD p1) (by rw [List.getElem?_map, hp1]; rfl)
    obtain ⟨b2, o2, c2', cs2, hv2, _, _, hb2, hr2, hl2, hcs2⟩ := sl_get h2' (by omega) k (wordD p2) (by rw [List.getElem?_map, hp2]; rfl)
    simp only [List.length_map, Value.slice.injEq] at hv1 hv2
    obtain ⟨rfl, _, rfl⟩ := hv1
    obtain ⟨rfl, _, rfl⟩ := hv2
    obtain ⟨u1, rfl, q1⟩ := rep_sl hr1
    obtain ⟨u2, rfl, q2⟩ := rep_sl hr2
    have ga := hcs1 0 _ rfl
    have gb := hcs2 0 _ rfl
    simp only [Nat.add_zero, Nat.mul_one, ← Nat.add_assoc] at ga gb
    have hcall : ∀ m' : Nat, Calls Tryz.prog 38 #[u1, u2] (wr.drewN m') fun e w' => e = .returned (.bool (beqs p1 p2)) ∧ ∃ n, w' = (wr.drewN m').drewN n :=
     fun m' => same_calls (wr.drewN m') S1 S2 u1 u2 p1 p2 (q1.stay ((Chg.refl (fun _ => False) _).drewN _) (fun _ _ e => e)) (q2.stay ((Chg.refl (fun _ => False) _).drewN _) (fun _ _ e => e))
    obtain ⟨A1, n1, c1, rfl⟩ := sl_formN q1
    obtain ⟨A2, n2, c2, rfl⟩ := sl_formN q2
    clear hp1 hp2 h1' h2' hr1 hr2 hcs1 hcs2 hl1 hl2 q1 q2
    have hlt2 : k < l2.length := by rw [← HL.out]; exact hlt
    have r0 : IntKind.i64.wrap ((k : Int) + 1) = (k : Int) + 1 := IntWalk.i64_in _ (by omega)
    cases hk2 : beqs p1 p2
    case false =>
     rw [hk2] at hcall HB
     have hR0 : Hid (R = false) := Lib.hid (by rw [← HK.out, HB.out]; rfl)
     go_wp2
     go_quiet ((go_at_call 38; exact (hcall _).quiet_of))
     go_wp2
     go_ret
     exact ⟨by rw [hR0.out]; try rfl, m + nq, by rw [HM.out, World.drewN_drewN]⟩
    case true =>
     rw [hk2] at hcall HB
     have hR0 : Hid (eqAll beqs (l1.drop (k + 1)) (l2.drop (k + 1)) = R) := Lib.hid (by rw [← HK.out, HB.out]; rfl)
     go_wp2
     go_quiet ((go_at_call 38; exact (hcall _).quiet_of))
     go_wp2
     go_roundg (gk - 1)
     case measure => omega
     case rel => exact ⟨k + 1, by omega, by go_num, ⟨m + nq, by rw [HM.out, World.drewN_drewN]⟩, hR0⟩
   ·have hR0 : Hid (R = true) := Lib.hid (by
     rw [← HK.out, List.drop_eq_nil_of_le (by omega), List.drop_eq_nil_of_le (by rw [← HL.out]; omega)]; rfl)
    go_wp2
    go_ret
    exact ⟨by rw [hR0.out]; try rfl, m, HM.out⟩
 ·have t1 : ((l1.length : Int) != (l2.length : Int)) = true := by simp; omega
  go_enter Tryz.func37, Tryz.ntmps37
  go_wp2
  go_ret
  exact ⟨by rw [eqAll_length _ l1 l2 hl]; try rfl, 0, rfl⟩
theorem Rep.heap {w w' : World} {S : Nat → Prop} {d : D} {cs : List Value} (h : Rep w S d cs) (hh : w'.heap = w.heap) : Rep w' S d cs := Rep.move (fun k _ _ => by rw [hh]) (fun _ h _ => h) _ _ h
def RSame (n : Nat) : Prop := ∀ (w : World) (S1 S2 : Nat → Prop) (v1 v2 : Value) (a b : List Lst), SizeOf.sizeOf a < n → Rep w S1 (.sl 39 2 (Lst.ds a)) [v1] → Rep w S2 (.sl 39 2 (Lst.ds b)) [v2] →
 Calls Tryz.prog 11 #[v1, v2] w fun e w' => e = .returned (.bool (sameLs a b)) ∧ Chg (fun _ => False) w w'
def RCmd (n : Nat) : Prop := ∀ (w : World) (S1 S2 : Nat → Prop) (cs1 cs2 : List Value) (x y : Cmd), SizeOf.sizeOf x < n → Rep w S1 x.d cs1 → Rep w S2 y.d cs2 →
 Calls Tryz.prog 19 #[.agg cs1.toArray, .agg cs2.toArray] w fun e w' => e = .returned (.bool (Cmd.same x y)) ∧ Chg (fun _ => False) w w'
set_option maxRecDepth 100000 in
set_option maxHeartbeats 8000000 in
theorem rcmd_step (n : Nat) (IH : RSame n) : RCmd (n + 1) := by
 intro w S1 S2 cs1 cs2 x y hn h1 h2
 obtain ⟨k1, n1, xs1, ws1, co1, bo1, ot1, ca1, rs1⟩ := x
 obtain ⟨k2, n2, xs2, ws2, co2, bo2, ot2, ca2, rs2⟩ := y
 obtain ⟨a1, a2, a3, a4, a5, a6, a7, rfl, r1, r2, r3, r4, r5, r6, r7⟩ := cmd_rep.1 h1
 obtain ⟨b1, b2, b3, b4, b5, b6, b7, rfl, s1, s2, s3, s4, s5, s6, s7⟩ := cmd_rep.1 h2
 clear h1 h2
 simp only [Cmd.mk.sizeOf_spec] at hn
 rw [Cas.ds_map] at r6 s6
 have HWs : Hid (∀ w', Chg (fun _ => False) w w' → Calls Tryz.prog 37 #[a2, b2] w' fun e w'' => e = .returned (.bool (sameWords ws1 ws2)) ∧ ∃ m, w'' = w'.drewN m) :=
  Lib.hid (fun w' hc => rwords_calls w' S1 S2 _ _ ws1 ws2 (r2.stay hc (fun _ _ e => e)) (s2.stay hc (fun _ _ e => e)))
 have HCo : Hid (∀ w', Chg (fun _ => False) w w' → Calls Tryz.prog 11 #[a3, b3] w' fun e w'' => e = .returned (.bool (sameLs co1 co2)) ∧ Chg (fun _ => False) w' w'') :=
  Lib.hid (fun w' hc => IH w' S1 S2 _ _ co1 co2 (by omega) (r3.stay hc (fun _ _ e => e)) (s3.stay hc (fun _ _ e => e)))
 have HBo : Hid (∀ w', Chg (fun _ => False) w w' → Calls Tryz.prog 11 #[a4, b4] w' fun e w'' => e = .returned (.bool (sameLs bo1 bo2)) ∧ Chg (fun _ => False) w' w'') :=
  Lib.hid (fun w' hc => IH w' S1 S2 _ _ bo1 bo2 (by omega) (r4.stay hc (fun _ _ e => e)) (s4.stay hc (fun _ _ e => e)))
 have HOt : Hid (∀ w', Chg (fun _ => False) w w' → Calls Tryz.prog 11 #[a5, b5] w' fun e w'' => e = .returned (.bool (sameLs ot1 ot2)) ∧ Chg (fun _ => False) w' w'') :=
  Lib.hid (fun w' hc => IH w' S1 S2 _ _ ot1 ot2 (by omega) (r5.stay hc (fun _ _ e => e)) (s5.stay hc (fun _ _ e => e)))
 have hcab : ∀ c ∈ ca1, SizeOf.sizeOf c < n + 1 := fun c hc => by have := List.sizeOf_lt_of_mem hc; omega
 obtain ⟨A1, c1, rfl⟩ := sl_form2 r1
 obtain ⟨A2, l2, c2, rfl⟩ := sl_formN r2
 obtain ⟨A3, l3, c3, rfl⟩ := sl_formN r3
 obtain ⟨A4, l4, c4, rfl⟩ := sl_formN r4
 obtain ⟨A5, l5, c5, rfl⟩ := sl_formN r5
 obtain ⟨A6, c6, rfl⟩ := sl_form2 r6
 obtain ⟨A7, c7, rfl⟩ := sl_form2 r7
 obtain ⟨B1, d1, rfl⟩ := sl_form2 s1
 obtain ⟨B2, m2, d2, rfl⟩ := sl_formN s2
 obtain ⟨B3, m3, d3, rfl⟩ := sl_formN s3
 obtain ⟨B4, m4, d4, rfl⟩ := sl_formN s4
 obtain ⟨B5, m5, d5, rfl⟩ := sl_formN s5
 obtain ⟨B6, d6, rfl⟩ := sl_form2 s6
 obtain ⟨B7, d7, rfl⟩ := sl_form2 s7
 simp only [List.length_map] at r1 r6 r7 s1 s6 s7 ⊢
 have HX : Hid (∀ w', Chg (fun _ => False) w w' → Rep w' S1 (.sl 72 2 (xs1.map Asg.d)) [.slice A1 xs1.length c1] ∧ Rep w' S2 (.sl 72 2 (xs2.map Asg.d)) [.slice B1 xs2.length d1] ∧ Rep w' S1 (.sl 75 3 (rs1.map Rdr.d)) [.slice A7 rs1.length c7] ∧ Rep w' S2 (.sl 75 3 (rs2.map Rdr.d)) [.slice B7 rs2.length d7] ∧
   Rep w' S1 (.sl 77 2 (ca1.map Cas.d)) [.slice A6 ca1.length c6] ∧ Rep w' S2 (.sl 77 2 (ca2.map Cas.d)) [.slice B6 ca2.length d6]) :=
  Lib.hid (fun w' hc => ⟨r1.stay hc (fun _ _ e => e), s1.stay hc (fun _ _ e => e), r7.stay hc (fun _ _ e => e), s7.stay hc (fun _ _ e => e), r6.stay hc (fun _ _ e => e), s6.stay hc (fun _ _ e => e)⟩)
 clear r1 r2 r3 r4 r5 r6 r7 s1 s2 s3 s4 s5 s6 s7 hn
 have hst : ((bstr n1).toList == (bstr n2).toList) = (n1 == n2) := by rw [ByteArray.toList_eq, ByteArray.toList_eq, bstr_toList, bstr_toList]
 generalize hR : Cmd.same (.mk k1 n1 xs1 ws1 co1 bo1 ot1 ca1 rs1) (.mk k2 n2 xs2 ws2 co2 bo2 ot2 ca2 rs2) = R
 rw [Cmd.same, sameCas_all] at hR
 have HR := Lib.hid hR; clear hR
 generalize bstr n1 = xt1 at *
 generalize bstr n2 = xt2 at *
 generalize hbws : sameWords ws1 ws2 = bws at *
 generalize hbco : sameLs co1 co2 = bco at *
 generalize hbbo : sameLs bo1 bo2 = bbo at *
 generalize hbot : sameLs ot1 ot2 = bot at *
 clear hbws hbco hbbo hbot
 cases hk : (k1 == k2)
 case false =>
  have hk2 : (k1 != k2) = true := by simpa using hk
  have hR0 : Hid (R = false) := Lib.hid (by rw [← HR.out, hk]; rfl)
  go_enter Tryz.func19, Tryz.ntmps19
  go_wp2
  go_ret
  exact ⟨by rw [hR0.out]; try rfl, ((Chg.refl _ w).alloc _).alloc _⟩
 case true =>
  have hk2 : (k1 != k2) = false := by simpa using hk
  cases hnm : (n1 == n2)
  case false =>
   rw [hnm] at hst
   have hR0 : Hid (R = false) := Lib.hid (by rw [← HR.out, hnm, Bool.and_false]; rfl)
   go_enter Tryz.func19, Tryz.ntmps19
   go_wp2
   go_ret
   exact ⟨by rw [hR0.out]; try rfl, ((Chg.refl _ w).alloc _).alloc _⟩
  case true =>
   rw [hnm] at hst
   have HR1 : Hid ((bws && bco && bbo && bot && eqAll Asg.same xs1 xs2 && eqAll Rdr.same rs1 rs2 && eqAll Cas.same ca1 ca2) = R) := Lib.hid (by rw [← HR.out, hk, hnm, Bool.true_and, Bool.true_and])
   clear HR
   go_enter Tryz.func19, Tryz.ntmps19
   go_wp2_with fail
   have hC0 : Chg (fun _ => False) w ((w.alloc (.cells #[.int .i64 k1, .string xt1, .slice A1 xs1.length c1, .slice A2 l2 c2, .slice A3 l3 c3, .slice A4 l4 c4, .slice A5 l5 c5, .slice A6 ca1.length c6, .slice A7 rs1.length c7] 49)).alloc (.cells #[.int .i64 k2, .string xt2, .slice B1 xs2.length d1, .slice B2 m2 d2, .slice B3 m3 d3, .slice B4 m4 d4, .slice B5 m5 d5, .slice B6 ca2.length d6, .slice B7 rs2.length d7] 49)) := ((Chg.refl _ w).alloc _).alloc _
   have hra0 := row_alloc (row_new w (.cells #[.int .i64 k1, .string xt1, .slice A1 xs1.length c1, .slice A2 l2 c2, .slice A3 l3 c3, .slice A4 l4 c4, .slice A5 l5 c5, .slice A6 ca1.length c6, .slice A7 rs1.length c7] 49)) (.cells #[.int .i64 k2, .string xt2, .slice B1 xs2.length d1, .slice B2 m2 d2, .slice B3 m3 d3, .slice B4 m4 d4, .slice B5 m5 d5, .slice B6 ca2.length d6, .slice B7 rs2.length d7] 49)
   have hrb0 := row_new (w.alloc (.cells #[.int .i64 k1, .string xt1, .slice A1 xs1.length c1, .slice A2 l2 c2, .slice A3 l3 c3, .slice A4 l4 c4, .slice A5 l5 c5, .slice A6 ca1.length c6, .slice A7 rs1.length c7] 49)) (.cells #[.int .i64 k2, .string xt2, .slice B1 xs2.length d1, .slice B2 m2 d2, .slice B3 m3 d3, .slice B4 m4 d4, .slice B5 m5 d5, .slice B6 ca2.length d6, .slice B7 rs2.length d7] 49)
   rw [World.size_alloc] at hrb0
   generalize (w.alloc (.cells #[.int .i64 k1, .string xt1, .slice A1 xs1.length c1, .slice A2 l2 c2, .slice A3 l3 c3, .slice A4 l4 c4, .slice A5 l5 c5, .slice A6 ca1.length c6, .slice A7 rs1.length c7] 49)).alloc (.cells #[.int .i64 k2, .string xt2, .slice B1 xs2.length d1, .slice B2 m2 d2, .slice B3 m3 d3, .slice B4 m4 d4, .slice B5 m5 d5, .slice B6 ca2.length d6, .slice B7 rs2.length d7] 49) = W at *
   have hca := row_cells hra0
   have hcb := row_cells hrb0
   have hXne : w.heap.size ≠ w.heap.size + 1 := by omega
   generalize w.heap.size + 1 = Y at *
   generalize w.heap.size = X at *
   refine Calls.mono (HWs.out _ hC0) ?_
   rintro e w1 ⟨rfl, mq, rfl⟩
   have hC1 := hC0.drewN mq
   have hra1 := row_chg hra0 ((Chg.refl (fun _ => False) _).drewN mq) (fun e => e)
   have hrb1 := row_chg hrb0 ((Chg.refl (fun _ => False) _).drewN mq) (fun e => e)
   generalize W.drewN mq = W1 at *
   clear hca hcb hst hk hk2 hnm hra0 hrb0 hC0 HWs
   have hcX := row_cells hra1
   have hcY := row_cells hrb1
   cases bws
   case false =>
    have hR0 : Hid (R = false) := Lib.hid (by rw [← HR1.out]; simp)
    go_wp2
    go_ret
    exact ⟨by rw [hR0.out]; try rfl, hC1⟩
   case true =>
    by_cases hla : xs1.length = xs2.length
    rotate_left
    ·have t1 : ((xs1.length : Int) != (xs2.length : Int)) = true := by simp; omega
     have hR0 : Hid (R = false) := Lib.hid (by rw [← HR1.out, eqAll_length _ _ _ hla]; simp)
     go_wp2
     go_ret
     exact ⟨by rw [hR0.out]; try rfl, hC1⟩
    have t1 : ((xs1.length : Int) != (xs2.length : Int)) = false := by simp; omega
    by_cases hlr : rs1.length = rs2.length
    rotate_left
    ·have t2 : ((rs1.length : Int) != (rs2.length : Int)) = true := by simp; omega
     have hR0 : Hid (R = false) := Lib.hid (by rw [← HR1.out, eqAll_length _ rs1 rs2 hlr]; simp)
     clear hla
     go_wp2
     go_ret
     exact ⟨by rw [hR0.out]; try rfl, hC1⟩
    have t2 : ((rs1.length : Int) != (rs2.length : Int)) = false := by simp; omega
    by_cases hlc : ca1.length = ca2.length
    rotate_left
    ·have t3 : ((ca1.length : Int) != (ca2.length : Int)) = true := by simp; omega
     have hR0 : Hid (R = false) := Lib.hid (by rw [← HR1.out, eqAll_length _ ca1 ca2 hlc]; simp)
     clear hla hlr
     go_wp2
     go_ret
     exact ⟨by rw [hR0.out]; try rfl, hC1⟩
    have t3 : ((ca1.length : Int) != (ca2.length : Int)) = false := by simp; omega
    have HLA := Lib.hid hla; clear hla
    have HLR := Lib.hid hlr; clear hlr
    have HLC := Lib.hid hlc; clear hlc
    have HXY := Lib.hid (And.intro hra1 hrb1)
    have HC1 := Lib.hid hC1
    go_wp2
    clear hra1 hrb1 hcX hcY t1 t2 t3 hC1
    go_loopg [5] xs1.length (fun rk i wx => ∃ j : Nat, j + rk = xs1.length ∧ i = .int .i64 j ∧ Chg (fun _ => False) W1 wx ∧ Hid (eqAll Asg.same (xs1.drop j) (xs2.drop j) = eqAll Asg.same xs1 xs2))
    case atStart => exact ⟨0, by omega, rfl, Chg.refl _ _, Lib.hid (by simp)⟩
    case round =>
     obtain ⟨j, hj, rfl, hC2, HK⟩ := hrel
     generalize wr = W2 at *
     have hX2 := row_chg HXY.out.1 hC2 (fun e => e)
     have hY2 := row_chg HXY.out.2 hC2 (fun e => e)
     have hcX := row_cells hX2
     have hcY := row_cells hY2
     by_cases hjl : j < xs1.length
     ·as_aux_lemma =>
       have hz := HX.out _ (HC1.out.trans hC2 (fun _ h _ => h))
       have hz1 := hz.1
       have hz2 := hz.2.1
       clear hz
       obtain ⟨p1, hp1⟩ : ∃ o, xs1[j]? = some o := ⟨xs1[j], List.getElem?_eq_getElem hjl⟩
       obtain ⟨p2, hp2⟩ : ∃ o, xs2[j]? = some o := ⟨xs2[j]'(by rw [← HLA.out]; exact hjl), List.getElem?_eq_getElem (by rw [← HLA.out]; exact hjl)⟩
       have HB := Lib.hid (eqAll_drop Asg.same xs1 xs2 j p1 p2 hp1 hp2)
       obtain ⟨b3, o3, c3', cs3, hv3, hc3, hm3, _, hr3, hl3, hcs3⟩ := sl_get hz1 (by omega) j (Asg.d p1) (by rw [List.getElem?_map, hp1]; rfl)
       obtain ⟨b4, o4, c4', cs4, hv4, _, _, _, hr4, hl4, hcs4⟩ := sl_get hz2 (by omega) j (Asg.d p2) (by rw [List.getElem?_map, hp2]; rfl)
       simp only [List.length_map, Value.slice.injEq] at hv3 hv4
       obtain ⟨rfl, _, rfl⟩ := hv3
       obtain ⟨rfl, _, rfl⟩ := hv4
       simp only [List.length_map, maxLen] at hc3 hm3
       obtain ⟨an1, aw1⟩ := p1
       obtain ⟨an2, aw2⟩ := p2
       obtain ⟨u1, rfl, ha1⟩ := asg_rep.1 hr3
       obtain ⟨u2, rfl, ha2⟩ := asg_rep.1 hr4
       have k31 := hcs3 0 _ rfl
       have k32 := hcs3 1 _ rfl
       have k41 := hcs4 0 _ rfl
       have k42 := hcs4 1 _ rfl
       simp only [Nat.add_zero, ← Nat.add_assoc] at k31 k32 k41 k42
       have hcall : ∀ m' : Nat, Calls Tryz.prog 38 #[u1, u2] (W2.drewN m') fun e w' => e = .returned (.bool (beqs aw1 aw2)) ∧ ∃ n, w' = (W2.drewN m').drewN n :=
        fun m' => same_calls (W2.drewN m') S1 S2 u1 u2 aw1 aw2 (ha1.stay ((Chg.refl (fun _ => False) _).drewN _) (fun _ _ e => e)) (ha2.stay ((Chg.refl (fun _ => False) _).drewN _) (fun _ _ e => e))
       obtain ⟨Q1, f1, q1, rfl⟩ := sl_formN ha1
       obtain ⟨Q2, f2, q2, rfl⟩ := sl_formN ha2
       have hj2 : j < xs2.length := by rw [← HLA.out]; exact hjl
       have r1 : IntKind.i64.wrap ((j : Int) + 1) = (j : Int) + 1 := IntWalk.i64_in _ (by omega)
       have hst : ((bstr an1).toList == (bstr an2).toList) = (an1 == an2) := by rw [ByteArray.toList_eq, ByteArray.toList_eq, bstr_toList, bstr_toList]
       have HE : Hid (Asg.same ⟨an1, aw1⟩ ⟨an2, aw2⟩ = (an1 == an2 && beqs aw1 aw2)) := Lib.hid rfl
       clear hp1 hp2 hz1 hz2 hcs3 hcs4 hr3 hr4 ha1 ha2 hX2 hY2 hl3 hl4
       generalize bstr an1 = ab1 at *
       generalize bstr an2 = ab2 at *
       cases hq : (an1 == an2)
       case false =>
        rw [hq] at hst
        have hR0 : Hid (R = false) := Lib.hid (by
         have e : eqAll Asg.same xs1 xs2 = false := by rw [← HK.out, HB.out, HE.out, hq]; rfl
         rw [← HR1.out, e]; simp)
        clear hcall
        go_wp2
        go_quiet (fail)
        go_wp2
        go_ret
        exact ⟨by rw [hR0.out]; try rfl, (HC1.out.trans hC2 (fun _ h _ => h)).drewN _⟩
       case true =>
        rw [hq] at hst
        cases hb : beqs aw1 aw2
        case false =>
         rw [hb] at hcall
         have hR0 : Hid (R = false) := Lib.hid (by
          have e : eqAll Asg.same xs1 xs2 = false := by rw [← HK.out, HB.out, HE.out, hq, hb]; rfl
          rw [← HR1.out, e]; simp)
         go_wp2
         go_quiet ((go_at_call 38; exact (hcall _).quiet_of))
         go_wp2
         go_ret
         exact ⟨by rw [hR0.out]; try rfl, (HC1.out.trans hC2 (fun _ h _ => h)).drewN _⟩
        case true =>
         rw [hb] at hcall
         have hR0 : Hid (eqAll Asg.same (xs1.drop (j + 1)) (xs2.drop (j + 1)) = eqAll Asg.same xs1 xs2) := Lib.hid (by rw [← HK.out, HB.out, HE.out, hq, hb]; rfl)
         go_wp2
         go_quiet ((go_at_call 38; exact (hcall _).quiet_of))
         go_wp2
         go_roundg (xs1.length - (j + 1))
         case measure => omega
         case rel => exact ⟨j + 1, by omega, rfl, hC2.drewN _, hR0⟩
     ·have HR2 : Hid ((bco && bbo && bot && eqAll Rdr.same rs1 rs2 && eqAll Cas.same ca1 ca2) = R) := Lib.hid (by
       have e : eqAll Asg.same xs1 xs2 = true := by rw [← HK.out, List.drop_eq_nil_of_le (by omega), List.drop_eq_nil_of_le (by rw [← HLA.out]; omega)]; rfl
       rw [← HR1.out, e]; simp)
      clear HK HR1
      clear hX2 hY2
      go_wp2
      clear hcX hcY
      go_loopg [6] rs1.length (fun rk i wx => ∃ j : Nat, j + rk = rs1.length ∧ i = .int .i64 j ∧ Chg (fun _ => False) W1 wx ∧ Hid (eqAll Rdr.same (rs1.drop j) (rs2.drop j) = eqAll Rdr.same rs1 rs2))
      case atStart => exact ⟨0, by omega, rfl, hC2, Lib.hid (by simp)⟩
      case round =>
       clear hC2 hj hjl
       obtain ⟨j, hj, rfl, hC2, HK⟩ := hrel
       generalize wr = W3 at *
       have hX2 := row_chg HXY.out.1 hC2 (fun e => e)
       have hY2 := row_chg HXY.out.2 hC2 (fun e => e)
       have hcX := row_cells hX2
       have hcY := row_cells hY2
       by_cases hjl : j < rs1.length
       ·as_aux_lemma =>
         have hz := HX.out _ (HC1.out.trans hC2 (fun _ h _ => h))
         have hz1 := hz.2.2.1
         have hz2 := hz.2.2.2.1
         clear hz
         obtain ⟨p1, hp1⟩ : ∃ o, rs1[j]? = some o := ⟨rs1[j], List.getElem?_eq_getElem hjl⟩
         obtain ⟨p2, hp2⟩ : ∃ o, rs2[j]? = some o := ⟨rs2[j]'(by rw [← HLR.out]; exact hjl), List.getElem?_eq_getElem (by rw [← HLR.out]; exact hjl)⟩
         have HB := Lib.hid (eqAll_drop Rdr.same rs1 rs2 j p1 p2 hp1 hp2)
         obtain ⟨b3, o3, c3', cs3, hv3, hc3, hm3, _, hr3, hl3, hcs3⟩ := sl_get hz1 (by omega) j (Rdr.d p1) (by rw [List.getElem?_map, hp1]; rfl)
         obtain ⟨b4, o4, c4', cs4, hv4, _, _, _, hr4, hl4, hcs4⟩ := sl_get hz2 (by omega) j (Rdr.d p2) (by rw [List.getElem?_map, hp2]; rfl)
         simp only [List.length_map, Value.slice.injEq] at hv3 hv4
         obtain ⟨rfl, _, rfl⟩ := hv3
         obtain ⟨rfl, _, rfl⟩ := hv4
         simp only [List.length_map, maxLen] at hc3 hm3
         obtain ⟨fd1, an1, aw1⟩ := p1
         obtain ⟨fd2, an2, aw2⟩ := p2
         obtain ⟨u1, rfl, ha1⟩ := rdr_rep.1 hr3
         obtain ⟨u2, rfl, ha2⟩ := rdr_rep.1 hr4
         have k31 := hcs3 0 _ rfl
         have k32 := hcs3 1 _ rfl
         have k33 := hcs3 2 _ rfl
         have k41 := hcs4 0 _ rfl
         have k42 := hcs4 1 _ rfl
         have k43 := hcs4 2 _ rfl
         simp only [Nat.add_zero, ← Nat.add_assoc] at k31 k32 k33 k41 k42 k43
         have hcall : ∀ m' : Nat, Calls Tryz.prog 38 #[u1, u2] (W3.drewN m') fun e w' => e = .returned (.bool (beqs aw1 aw2)) ∧ ∃ n, w' = (W3.drewN m').drewN n :=
          fun m' => same_calls (W3.drewN m') S1 S2 u1 u2 aw1 aw2 (ha1.stay ((Chg.refl (fun _ => False) _).drewN _) (fun _ _ e => e)) (ha2.stay ((Chg.refl (fun _ => False) _).drewN _) (fun _ _ e => e))
         obtain ⟨Q1, f1, q1, rfl⟩ := sl_formN ha1
         obtain ⟨Q2, f2, q2, rfl⟩ := sl_formN ha2
         have hj2 : j < rs2.length := by rw [← HLR.out]; exact hjl
         have r1 : IntKind.i64.wrap ((j : Int) + 1) = (j : Int) + 1 := IntWalk.i64_in _ (by omega)
         have hst : ((bstr an1).toList == (bstr an2).toList) = (an1 == an2) := by rw [ByteArray.toList_eq, ByteArray.toList_eq, bstr_toList, bstr_toList]
         have HE : Hid (Rdr.same ⟨fd1, an1, aw1⟩ ⟨fd2, an2, aw2⟩ = (fd1 == fd2 && an1 == an2 && beqs aw1 aw2)) := Lib.hid rfl
         clear hp1 hp2 hz1 hz2 hcs3 hcs4 hr3 hr4 ha1 ha2 hX2 hY2 hl3 hl4
         generalize bstr an1 = ab1 at *
         generalize bstr an2 = ab2 at *
         cases hf : (fd1 == fd2)
         case false =>
          have hf2 : (fd1 != fd2) = true := by simpa using hf
          have hR0 : Hid (R = false) := Lib.hid (by
           have e : eqAll Rdr.same rs1 rs2 = false := by rw [← HK.out, HB.out, HE.out, hf]; rfl
           rw [← HR2.out, e]; simp)
          clear hcall
          go_wp2
          go_quiet (fail)
          go_wp2
          go_ret
          exact ⟨by rw [hR0.out]; try rfl, (HC1.out.trans hC2 (fun _ h _ => h)).drewN _⟩
         case true =>
          have hf2 : (fd1 != fd2) = false := by simpa using hf
          cases hq : (an1 == an2)
          case false =>
           rw [hq] at hst
           have hR0 : Hid (R = false) := Lib.hid (by
            have e : eqAll Rdr.same rs1 rs2 = false := by rw [← HK.out, HB.out, HE.out, hf, hq]; rfl
            rw [← HR2.out, e]; simp)
           clear hcall
           go_wp2
           go_quiet (fail)
           go_wp2
           go_ret
           exact ⟨by rw [hR0.out]; try rfl, (HC1.out.trans hC2 (fun _ h _ => h)).drewN _⟩
          case true =>
           rw [hq] at hst
           cases hb : beqs aw1 aw2
           case false =>
            rw [hb] at hcall
            have hR0 : Hid (R = false) := Lib.hid (by
             have e : eqAll Rdr.same rs1 rs2 = false := by rw [← HK.out, HB.out, HE.out, hf, hq, hb]; rfl
             rw [← HR2.out, e]; simp)
            go_wp2
            go_quiet ((go_at_call 38; exact (hcall _).quiet_of))
            go_wp2
            go_ret
            exact ⟨by rw [hR0.out]; try rfl, (HC1.out.trans hC2 (fun _ h _ => h)).drewN _⟩
           case true =>
            rw [hb] at hcall
            have hR0 : Hid (eqAll Rdr.same (rs1.drop (j + 1)) (rs2.drop (j + 1)) = eqAll Rdr.same rs1 rs2) := Lib.hid (by rw [← HK.out, HB.out, HE.out, hf, hq, hb]; rfl)
            go_wp2
            go_quiet ((go_at_call 38; exact (hcall _).quiet_of))
            go_wp2
            go_roundg (rs1.length - (j + 1))
            case measure => omega
            case rel => exact ⟨j + 1, by omega, rfl, hC2.drewN _, hR0⟩
       ·have HR3 : Hid ((bco && bbo && bot && eqAll Cas.same ca1 ca2) = R) := Lib.hid (by
         have e : eqAll Rdr.same rs1 rs2 = true := by rw [← HK.out, List.drop_eq_nil_of_le (by omega), List.drop_eq_nil_of_le (by rw [← HLR.out]; omega)]; rfl
         rw [← HR2.out, e]; simp)
        clear HK HR2
        clear hX2 hY2
        go_wp2
        clear hcX hcY
        go_loopg [7] ca1.length (fun rk i wx => ∃ j : Nat, j + rk = ca1.length ∧ i = .int .i64 j ∧ Chg (fun _ => False) W1 wx ∧ Hid (eqAll Cas.same (ca1.drop j) (ca2.drop j) = eqAll Cas.same ca1 ca2))
        case atStart => exact ⟨0, by omega, rfl, hC2, Lib.hid (by simp)⟩
        case round =>
         clear hC2 hj hjl
         obtain ⟨j, hj, rfl, hC2, HK⟩ := hrel
         generalize wr = W4 at *
         have hX2 := row_chg HXY.out.1 hC2 (fun e => e)
         have hY2 := row_chg HXY.out.2 hC2 (fun e => e)
         have hcX := row_cells hX2
         have hcY := row_cells hY2
         by_cases hjl : j < ca1.length
         ·as_aux_lemma =>
           have hz := HX.out _ (HC1.out.trans hC2 (fun _ h _ => h))
           have hz1 := hz.2.2.2.2.1
           have hz2 := hz.2.2.2.2.2
           clear hz
           obtain ⟨p1, hp1⟩ : ∃ o, ca1[j]? = some o := ⟨ca1[j], List.getElem?_eq_getElem hjl⟩
           obtain ⟨p2, hp2⟩ : ∃ o, ca2[j]? = some o := ⟨ca2[j]'(by rw [← HLC.out]; exact hjl), List.getElem?_eq_getElem (by rw [← HLC.out]; exact hjl)⟩
           have HB := Lib.hid (eqAll_drop Cas.same ca1 ca2 j p1 p2 hp1 hp2)
           obtain ⟨b3, o3, c3', cs3, hv3, hc3, hm3, _, hr3, hl3, hcs3⟩ := sl_get hz1 (by omega) j (Cas.d p1) (by rw [List.getElem?_map, hp1]; rfl)
           obtain ⟨b4, o4, c4', cs4, hv4, _, _, _, hr4, hl4, hcs4⟩ := sl_get hz2 (by omega) j (Cas.d p2) (by rw [List.getElem?_map, hp2]; rfl)
           simp only [List.length_map, Value.slice.injEq] at hv3 hv4
           obtain ⟨rfl, _, rfl⟩ := hv3
           obtain ⟨rfl, _, rfl⟩ := hv4
           simp only [List.length_map, maxLen] at hc3 hm3
           have hsz := hcab p1 (List.mem_of_getElem? hp1)
           obtain ⟨pp1, cb1⟩ := p1
           obtain ⟨pp2, cb2⟩ := p2
           obtain ⟨u1, v1, rfl, ha1, hb1'⟩ := cas_rep.1 hr3
           obtain ⟨u2, v2, rfl, ha2, hb2'⟩ := cas_rep.1 hr4
           have k31 := hcs3 0 _ rfl
           have k32 := hcs3 1 _ rfl
           have k41 := hcs4 0 _ rfl
           have k42 := hcs4 1 _ rfl
           simp only [Nat.add_zero, ← Nat.add_assoc] at k31 k32 k41 k42
           simp only [Cas.mk.sizeOf_spec] at hsz
           have hwords : ∀ w', w'.heap = W4.heap → Calls Tryz.prog 37 #[u1, u2] w' fun e w'' => e = .returned (.bool (sameWords pp1 pp2)) ∧ ∃ m, w'' = w'.drewN m :=
            fun w' hh => rwords_calls w' S1 S2 _ _ pp1 pp2 (Rep.heap ha1 hh) (Rep.heap ha2 hh)
           have hlists : ∀ w', w'.heap = W4.heap → Calls Tryz.prog 11 #[v1, v2] w' fun e w'' => e = .returned (.bool (sameLs cb1 cb2)) ∧ Chg (fun _ => False) w' w'' :=
            fun w' hh => IH w' S1 S2 _ _ cb1 cb2 (by omega) (Rep.heap hb1' hh) (Rep.heap hb2' hh)
           obtain ⟨Q1, f1, q1, rfl⟩ := sl_formN ha1
           obtain ⟨Q2, f2, q2, rfl⟩ := sl_formN ha2
           obtain ⟨Q3, f3, q3, rfl⟩ := sl_formN hb1'
           obtain ⟨Q4, f4, q4, rfl⟩ := sl_formN hb2'
           have hj2 : j < ca2.length := by rw [← HLC.out]; exact hjl
           have r1 : IntKind.i64.wrap ((j : Int) + 1) = (j : Int) + 1 := IntWalk.i64_in _ (by omega)
           have HE : Hid (Cas.same (.mk pp1 cb1) (.mk pp2 cb2) = (sameWords pp1 pp2 && sameLs cb1 cb2)) := Lib.hid (by rw [Cas.same])
           have t1 := hcX 7
           have t2 := hcY 7
           simp only [List.getElem?_toArray, List.getElem?_cons_succ, List.getElem?_cons_zero] at t1 t2
           clear hp1 hp2 hz1 hz2 hcs3 hcs4 hr3 hr4 ha1 ha2 hb1' hb2' hX2 hY2 hsz hl3 hl4
           have HM := Lib.hid hC2; clear hC2
           cases hq : sameWords pp1 pp2
           case false =>
            rw [hq] at hwords
            have hR0 : Hid (R = false) := Lib.hid (by
             have e : eqAll Cas.same ca1 ca2 = false := by rw [← HK.out, HB.out, HE.out, hq]; rfl
             rw [← HR3.out, e]; simp)
            have hC2 := HM.out
            clear hlists t1 t2 HM
            have hwd : ∀ m' : Nat, Calls Tryz.prog 37 #[.slice Q1 f1 q1, .slice Q2 f2 q2] (W4.drewN m') fun e w' => e = .returned (.bool false) ∧ ∃ n, w' = (W4.drewN m').drewN n := fun m' => hwords _ rfl
            clear hwords
            go_wp2
            go_quiet ((go_at_call 37; exact (hwd _).quiet_of))
            go_wp2
            go_ret
            exact ⟨by rw [hR0.out]; try rfl, (HC1.out.trans hC2 (fun _ h _ => h)).drewN _⟩
           case true =>
            rw [hq] at hwords
            cases hb : sameLs cb1 cb2
            case false =>
             rw [hb] at hlists
             have hR0 : Hid (R = false) := Lib.hid (by
              have e : eqAll Cas.same ca1 ca2 = false := by rw [← HK.out, HB.out, HE.out, hq, hb]; rfl
              rw [← HR3.out, e]; simp)
             go_wp2
             clear hcX hcY
             go_region_held3 (fun w' => w'.cell? ⟨X, 7, none⟩ = some (.slice (some ⟨b3, o3, none⟩) ca1.length c6) ∧ w'.cell? ⟨Y, 7, none⟩ = some (.slice (some ⟨b4, o4, none⟩) ca2.length d6) ∧ w'.cell? ⟨b3, o3 + j * 2, none⟩ = some (.slice Q1 f1 q1) ∧ w'.cell? ⟨b3, o3 + j * 2 + 1, none⟩ = some (.slice Q3 f3 q3) ∧ w'.cell? ⟨b4, o4 + j * 2, none⟩ = some (.slice Q2 f2 q2) ∧ w'.cell? ⟨b4, o4 + j * 2 + 1, none⟩ = some (.slice Q4 f4 q4)) (first | go_keep | exact ⟨HK2.out.1, HK2.out.2.1, HK2.out.2.2.1, HK2.out.2.2.2.1, HK2.out.2.2.2.2.1, HK2.out.2.2.2.2.2⟩) (first
              | (go_at_call 37; refine Calls.mono (hwords _ (by rfl)) ?_; rintro e w' ⟨rfl, mm, rfl⟩)
              | (go_at_call 11; refine Calls.mono (hlists _ (by rfl)) ?_; rintro e w5 ⟨rfl, hC5⟩; have HK2 := Lib.hid (⟨hC5.cell t1 (fun e => e), hC5.cell t2 (fun e => e), hC5.cell k31 (fun e => e), hC5.cell k32 (fun e => e), hC5.cell k41 (fun e => e), hC5.cell k42 (fun e => e)⟩ : _ ∧ _ ∧ _ ∧ _ ∧ _ ∧ _)))
             go_wp2
             go_ret
             exact ⟨by rw [hR0.out]; try rfl, (HC1.out.trans HM.out (fun _ h _ => h)).trans (((Chg.refl (fun _ => False) W4).drewN _).trans hC5 (fun _ h _ => h)) (fun _ h _ => h)⟩
            case true =>
             rw [hb] at hlists
             have hR0 : Hid (eqAll Cas.same (ca1.drop (j + 1)) (ca2.drop (j + 1)) = eqAll Cas.same ca1 ca2) := Lib.hid (by rw [← HK.out, HB.out, HE.out, hq, hb]; rfl)
             go_wp2
             clear hcX hcY
             go_region_held3 (fun w' => w'.cell? ⟨X, 7, none⟩ = some (.slice (some ⟨b3, o3, none⟩) ca1.length c6) ∧ w'.cell? ⟨Y, 7, none⟩ = some (.slice (some ⟨b4, o4, none⟩) ca2.length d6) ∧ w'.cell? ⟨b3, o3 + j * 2, none⟩ = some (.slice Q1 f1 q1) ∧ w'.cell? ⟨b3, o3 + j * 2 + 1, none⟩ = some (.slice Q3 f3 q3) ∧ w'.cell? ⟨b4, o4 + j * 2, none⟩ = some (.slice Q2 f2 q2) ∧ w'.cell? ⟨b4, o4 + j * 2 + 1, none⟩ = some (.slice Q4 f4 q4)) (first | go_keep | exact ⟨HK2.out.1, HK2.out.2.1, HK2.out.2.2.1, HK2.out.2.2.2.1, HK2.out.2.2.2.2.1, HK2.out.2.2.2.2.2⟩) (first
              | (go_at_call 37; refine Calls.mono (hwords _ (by rfl)) ?_; rintro e w' ⟨rfl, mm, rfl⟩)
              | (go_at_call 11; refine Calls.mono (hlists _ (by rfl)) ?_; rintro e w5 ⟨rfl, hC5⟩; have HK2 := Lib.hid (⟨hC5.cell t1 (fun e => e), hC5.cell t2 (fun e => e), hC5.cell k31 (fun e => e), hC5.cell k32 (fun e => e), hC5.cell k41 (fun e => e), hC5.cell k42 (fun e => e)⟩ : _ ∧ _ ∧ _ ∧ _ ∧ _ ∧ _)))
             go_wp2
             go_roundg (ca1.length - (j + 1))
             case measure => omega
             case rel => exact ⟨j + 1, by omega, rfl, HM.out.trans (((Chg.refl (fun _ => False) W4).drewN _).trans hC5 (fun _ h _ => h)) (fun _ h _ => h), hR0⟩
         ·as_aux_lemma =>
           have HR4 : Hid ((bco && bbo && bot) = R) := Lib.hid (by
            have e : eqAll Cas.same ca1 ca2 = true := by rw [← HK.out, List.drop_eq_nil_of_le (by omega), List.drop_eq_nil_of_le (by rw [← HLC.out]; omega)]; rfl
            rw [← HR3.out, e]; simp)
           have hCA := HC1.out.trans hC2 (fun _ h _ => h)
           clear HK HR3 hC2 HX HXY HC1 hcab IH
           go_wp2_with fail
           refine (HCo.out _ hCA).mono ?_
           rintro e W5 ⟨rfl, hC⟩
           clear hcX hcY
           have hX5 := row_chg hX2 hC (fun e => e)
           have hY5 := row_chg hY2 hC (fun e => e)
           have hcX := row_cells hX5
           have hcY := row_cells hY5
           have hCB := hCA.trans hC (fun _ h _ => h)
           clear hX2 hY2 hC hCA
           cases bco
           case false =>
            have hR0 : Hid (R = false) := Lib.hid (by rw [← HR4.out]; simp)
            go_wp2
            go_ret
            exact ⟨by rw [hR0.out]; try rfl, hCB⟩
           case true =>
            go_wp2_with fail
            refine (HBo.out _ hCB).mono ?_
            rintro e W6 ⟨rfl, hC⟩
            clear hcX hcY
            have hX6 := row_chg hX5 hC (fun e => e)
            have hY6 := row_chg hY5 hC (fun e => e)
            have hcX := row_cells hX6
            have hcY := row_cells hY6
            have hCC := hCB.trans hC (fun _ h _ => h)
            clear hX5 hY5 hC hCB
            cases bbo
            case false =>
             have hR0 : Hid (R = false) := Lib.hid (by rw [← HR4.out]; simp)
             go_wp2
             go_ret
             exact ⟨by rw [hR0.out]; try rfl, hCC⟩
            case true =>
             have hR0 : Hid (R = bot) := Lib.hid (by rw [← HR4.out]; simp)
             go_wp2_with fail
             refine (HOt.out _ hCC).mono ?_
             rintro e W7 ⟨rfl, hC⟩
             clear hcX hcY
             go_wp2
             go_ret
             exact ⟨by rw [hR0.out]; try rfl, hCC.trans hC (fun _ h _ => h)⟩
set_option maxRecDepth 100000 in
set_option maxHeartbeats 8000000 in
theorem rsame_step (n : Nat) (IH : RCmd n) : RSame n := by
 intro w S1 S2 v1 v2 a b hn h1 h2
 rw [Lst.ds_map] at h1 h2
 obtain ⟨B1, d1, rfl⟩ := sl_form2 h1
 obtain ⟨B2, d2, rfl⟩ := sl_form2 h2
 rw [List.length_map] at h1 h2
 have hx1 := rep_max h1
 rw [List.length_map] at hx1
 simp only [List.length_map]
 rw [sameLs_all]
 by_cases hl : a.length = b.length
 rotate_left
 ·have t1 : ((a.length : Int) != (b.length : Int)) = true := by simp; omega
  go_enter Tryz.func11, Tryz.ntmps11
  go_wp2
  go_ret
  exact ⟨by rw [eqAll_length _ a b hl]; try rfl, Chg.refl _ _⟩
 have t1 : ((a.length : Int) != (b.length : Int)) = false := by simp; omega
 generalize hR : eqAll Lst.same a b = R
 have HR := Lib.hid hR; clear hR
 have HL := Lib.hid hl; clear hl
 go_enter Tryz.func11, Tryz.ntmps11
 go_wp2
 clear t1
 go_loopg [5] a.length (fun rk i wr => ∃ k : Nat, k + rk = a.length ∧ i = .int .i64 k ∧ Chg (fun _ => False) w wr ∧ Hid (eqAll Lst.same (a.drop k) (b.drop k) = R))
 case atStart => exact ⟨0, by omega, rfl, Chg.refl _ _, Lib.hid (by simpa using HR.out)⟩
 case round =>
  clear HR
  obtain ⟨k, hk, rfl, hC, HK⟩ := hrel
  generalize wr = W0 at *
  have h1' := h1.stay hC (fun _ _ e => e)
  have h2' := h2.stay hC (fun _ _ e => e)
  clear h1 h2
  by_cases hlt : k < a.length
  rotate_left
  ·have hR0 : Hid (R = true) := Lib.hid (by
    rw [← HK.out, List.drop_eq_nil_of_le (by omega), List.drop_eq_nil_of_le (by rw [← HL.out]; omega)]; rfl)
   go_wp2
   go_ret
   exact ⟨by rw [hR0.out]; try rfl, hC⟩
  obtain ⟨p1, hp1⟩ : ∃ p, a[k]? = some p := ⟨a[k], List.getElem?_eq_getElem hlt⟩
  obtain ⟨p2, hp2⟩ : ∃ p, b[k]? = some p := ⟨b[k]'(by rw [← HL.out]; exact hlt), List.getElem?_eq_getElem (by rw [← HL.out]; exact hlt)⟩
  have HB := Lib.hid (eqAll_drop Lst.same a b k p1 p2 hp1 hp2)
  have hsz := List.sizeOf_lt_of_mem (List.mem_of_getElem? hp1)
  obtain ⟨b1, o1, c1', cs1, hv1, hc1, hm1, hb1, hr1, hl1, hcs1⟩ := sl_get h1' (by omega) k p1.d (by rw [List.getElem?_map, hp1]; rfl)
  obtain ⟨b2, o2, c2', cs2, hv2, _, _, hb2, hr2, hl2, hcs2⟩ := sl_get h2' (by omega) k p2.d (by rw [List.getElem?_map, hp2]; rfl)
  simp only [List.length_map, Value.slice.injEq] at hv1 hv2
  obtain ⟨rfl, _, rfl⟩ := hv1
  obtain ⟨rfl, _, rfl⟩ := hv2
  have hlt2 : k < b.length := by rw [← HL.out]; exact hlt
  have r0 : IntKind.i64.wrap ((k : Int) + 1) = (k : Int) + 1 := IntWalk.i64_in _ (by omega)
  obtain ⟨ps1, os1⟩ := p1
  obtain ⟨ps2, os2⟩ := p2
  obtain ⟨x1, y1, rfl, hx1, hy1⟩ := lst_rep.1 hr1
  obtain ⟨x2, y2, rfl, hx2, hy2⟩ := lst_rep.1 hr2
  obtain ⟨A1, n1, rfl⟩ := sl_form hx1
  obtain ⟨A2, n2, rfl⟩ := sl_form hx2
  obtain ⟨E1, m1, rfl⟩ := sl_form hy1
  obtain ⟨E2, m2, rfl⟩ := sl_form hy2
  simp only [Pip.ds_map, List.length_map] at hx1 hx2 hy1 hy2 hcs1 hcs2
  have g11 := hcs1 0 _ rfl
  have g12 := hcs1 1 _ rfl
  have g21 := hcs2 0 _ rfl
  have g22 := hcs2 1 _ rfl
  simp only [Nat.add_zero, ← Nat.add_assoc] at g11 g12 g21 g22
  have HE : Hid (Lst.same (.mk ps1 os1) (.mk ps2 os2) = (eqAll (fun x y : Bytes => x == y) os1 os2 && eqAll Pip.same ps1 ps2)) := Lib.hid (by rw [Lst.same, ops_all, samePips_all])
  simp only [Lst.mk.sizeOf_spec] at hsz
  clear hp1 hp2 h1' h2' hcs1 hcs2 hr1 hr2 hl1 hl2
  have HG := Lib.hid (And.intro g11 g21)
  have HR0 := Lib.hid r0
  have HX1 := Lib.hid hx1
  have HX2 := Lib.hid hx2
  have HY1 := Lib.hid hy1
  have HY2 := Lib.hid hy2
  clear hx1 hx2 hy1 hy2
  by_cases hlp : ps1.length = ps2.length
  rotate_left
  ·have t1 : ((ps1.length : Int) != (ps2.length : Int)) = true := by simp; omega
   have hR0 : Hid (R = false) := Lib.hid (by rw [← HK.out, HB.out, HE.out, eqAll_length _ ps1 ps2 hlp]; simp)
   go_wp2
   go_quiet (fail)
   go_wp2
   go_ret
   exact ⟨by rw [hR0.out]; try rfl, hC.drewN _⟩
  have t1 : ((ps1.length : Int) != (ps2.length : Int)) = false := by simp; omega
  by_cases hlo : os1.length = os2.length
  rotate_left
  ·have t2 : ((os1.length : Int) != (os2.length : Int)) = true := by simp; omega
   have hR0 : Hid (R = false) := Lib.hid (by rw [← HK.out, HB.out, HE.out, eqAll_length _ os1 os2 hlo]; simp)
   clear hlp
   go_wp2
   go_quiet (fail)
   go_wp2
   go_ret
   exact ⟨by rw [hR0.out]; try rfl, hC.drewN _⟩
  have t2 : ((os1.length : Int) != (os2.length : Int)) = false := by simp; omega
  have HLP := Lib.hid hlp; clear hlp
  have HLO := Lib.hid hlo; clear hlo
  go_wp2
  go_quiet (fail)
  go_wp2
  clear t1 t2
  go_loopg [6] os1.length (fun rk i wx => ∃ j : Nat, j + rk = os1.length ∧ i = .int .i64 j ∧ Chg (fun _ => False) W0 wx ∧ Hid (eqAll (fun x y : Bytes => x == y) (os1.drop j) (os2.drop j) = eqAll (fun x y : Bytes => x == y) os1 os2))
  case atStart => exact ⟨0, by omega, rfl, (Chg.refl _ _).drewN _, Lib.hid (by simp)⟩
  case round =>
   obtain ⟨j, hj, rfl, hC1, HJ⟩ := hrel
   generalize wr = W1 at *
   have k11 := hC1.cell g11 (fun e => e)
   have k12 := hC1.cell g12 (fun e => e)
   have k21 := hC1.cell g21 (fun e => e)
   have k22 := hC1.cell g22 (fun e => e)
   have hz1 := HY1.out.stay hC1 (fun _ _ e => e)
   have hz2 := HY2.out.stay hC1 (fun _ _ e => e)
   clear g11 g12 g21 g22
   by_cases hjl : j < os1.length
   ·obtain ⟨q1, hq1⟩ : ∃ o, os1[j]? = some o := ⟨os1[j], List.getElem?_eq_getElem hjl⟩
    obtain ⟨q2, hq2⟩ : ∃ o, os2[j]? = some o := ⟨os2[j]'(by rw [← HLO.out]; exact hjl), List.getElem?_eq_getElem (by rw [← HLO.out]; exact hjl)⟩
    have HD := Lib.hid (eqAll_drop (fun x y : Bytes => x == y) os1 os2 j q1 q2 hq1 hq2)
    obtain ⟨b3, o3, c3', cs3, hv3, hc3, hm3, _, hr3, hl3, hcs3⟩ := sl_get hz1 (by omega) j (bytesD q1) (by rw [List.getElem?_map, hq1]; rfl)
    obtain ⟨b4, o4, c4', cs4, hv4, _, _, _, hr4, hl4, hcs4⟩ := sl_get hz2 (by omega) j (bytesD q2) (by rw [List.getElem?_map, hq2]; rfl)
    simp only [List.length_map, Value.slice.injEq] at hv3 hv4
    obtain ⟨rfl, _, rfl⟩ := hv3
    obtain ⟨rfl, _, rfl⟩ := hv4
    simp only [List.length_map, maxLen] at hc3 hm3
    have e3 : cs3 = [.string (bstr q1)] := hr3
    have e4 : cs4 = [.string (bstr q2)] := hr4
    subst e3 e4
    have k3 := hcs3 0 _ rfl
    have k4 := hcs4 0 _ rfl
    simp only [Nat.mul_one, Nat.add_zero] at k3 k4
    have hj2 : j < os2.length := by rw [← HLO.out]; exact hjl
    have r1 : IntKind.i64.wrap ((j : Int) + 1) = (j : Int) + 1 := IntWalk.i64_in _ (by omega)
    have hst : ((bstr q1).toList == (bstr q2).toList) = (q1 == q2) := by rw [ByteArray.toList_eq, ByteArray.toList_eq, bstr_toList, bstr_toList]
    clear hq1 hq2 hz1 hz2 hcs3 hcs4 hr3 hr4 hl3 hl4
    generalize bstr q1 = ob1 at *
    generalize bstr q2 = ob2 at *
    cases hq : (q1 == q2)
    case false =>
     rw [hq] at hst
     have hR0 : Hid (R = false) := Lib.hid (by
      have e : eqAll (fun x y : Bytes => x == y) os1 os2 = false := by rw [← HJ.out, HD.out, hq]; rfl
      rw [← HK.out, HB.out, HE.out, e]; rfl)
     go_wp2
     go_quiet (fail)
     go_wp2
     go_ret
     exact ⟨by rw [hR0.out]; try rfl, (hC.trans hC1 (fun _ h _ => h)).drewN _⟩
    case true =>
     rw [hq] at hst
     have hR0 : Hid (eqAll (fun x y : Bytes => x == y) (os1.drop (j + 1)) (os2.drop (j + 1)) = eqAll (fun x y : Bytes => x == y) os1 os2) := Lib.hid (by rw [← HJ.out, HD.out, hq]; rfl)
     go_wp2
     go_quiet (fail)
     go_wp2
     go_roundg (gk - 1)
     case measure => omega
     case rel => exact ⟨j + 1, by omega, rfl, hC1.drewN _, hR0⟩
   ·have HE2 : Hid (Lst.same (.mk ps1 os1) (.mk ps2 os2) = eqAll Pip.same ps1 ps2) := Lib.hid (by
     have e : eqAll (fun x y : Bytes => x == y) os1 os2 = true := by rw [← HJ.out, List.drop_eq_nil_of_le (by omega), List.drop_eq_nil_of_le (by rw [← HLO.out]; omega)]; rfl
     rw [HE.out, e]; rfl)
    clear hz1 hz2 HJ HE
    go_wp2
    go_loopg [7] ps1.length (fun rk i wy => ∃ j : Nat, j + rk = ps1.length ∧ i = .int .i64 j ∧ Chg (fun _ => False) W0 wy ∧ Hid (eqAll Pip.same (ps1.drop j) (ps2.drop j) = eqAll Pip.same ps1 ps2))
    case atStart => exact ⟨0, by omega, rfl, hC1, Lib.hid (by simp)⟩
    case round =>
     obtain ⟨q, hq, rfl, hC3, HQ⟩ := hrel
     generalize wr = W2 at *
     have g11 := HG.out.1
     have g21 := HG.out.2
     have j11 := hC3.cell g11 (fun e => e)
     have j21 := hC3.cell g21 (fun e => e)
     have hz1 := HX1.out.stay hC3 (fun _ _ e => e)
     have hz2 := HX2.out.stay hC3 (fun _ _ e => e)
     clear g11 g21 k11 k12 k21 k22 hj hjl hC1
     by_cases hql : q < ps1.length
     rotate_left
     ·have e : eqAll Pip.same ps1 ps2 = true := by rw [← HQ.out, List.drop_eq_nil_of_le (by omega), List.drop_eq_nil_of_le (by rw [← HLP.out]; omega)]; rfl
      have hR0 : Hid (eqAll Lst.same (a.drop (k + 1)) (b.drop (k + 1)) = R) := Lib.hid (by rw [← HK.out, HB.out, HE2.out, e]; rfl)
      clear hz1 hz2 e
      have r0 := HR0.out
      go_wp2
      go_roundg (a.length - (k + 1))
      case measure => omega
      case rel => exact ⟨k + 1, by omega, rfl, hC.trans hC3 (fun _ h _ => h), hR0⟩
     obtain ⟨pp1, hpp1⟩ : ∃ o, ps1[q]? = some o := ⟨ps1[q], List.getElem?_eq_getElem hql⟩
     obtain ⟨pp2, hpp2⟩ : ∃ o, ps2[q]? = some o := ⟨ps2[q]'(by rw [← HLP.out]; exact hql), List.getElem?_eq_getElem (by rw [← HLP.out]; exact hql)⟩
     have HD := Lib.hid (eqAll_drop Pip.same ps1 ps2 q pp1 pp2 hpp1 hpp2)
     have hsz2 := List.sizeOf_lt_of_mem (List.mem_of_getElem? hpp1)
     obtain ⟨b3, o3, c3', cs3, hv3, hc3, hm3, _, hr3, hl3, hcs3⟩ := sl_get hz1 (by omega) q pp1.d (by rw [List.getElem?_map, hpp1]; rfl)
     obtain ⟨b4, o4, c4', cs4, hv4, _, _, _, hr4, hl4, hcs4⟩ := sl_get hz2 (by omega) q pp2.d (by rw [List.getElem?_map, hpp2]; rfl)
     simp only [List.length_map, Value.slice.injEq] at hv3 hv4
     obtain ⟨rfl, _, rfl⟩ := hv3
     obtain ⟨rfl, _, rfl⟩ := hv4
     simp only [List.length_map, maxLen] at hc3 hm3
     obtain ⟨ng1, ds1⟩ := pp1
     obtain ⟨ng2, ds2⟩ := pp2
     obtain ⟨x3, rfl, hx3⟩ := pip_rep.1 hr3
     obtain ⟨x4, rfl, hx4⟩ := pip_rep.1 hr4
     obtain ⟨A3, n3, rfl⟩ := sl_form hx3
     obtain ⟨A4, n4, rfl⟩ := sl_form hx4
     simp only [Cmd.ds_map, List.length_map] at hx3 hx4 hcs3 hcs4
     have k31 := hcs3 0 _ rfl
     have k32 := hcs3 1 _ rfl
     have k41 := hcs4 0 _ rfl
     have k42 := hcs4 1 _ rfl
     simp only [Nat.add_zero, ← Nat.add_assoc] at k31 k32 k41 k42
     have hq2 : q < ps2.length := by rw [← HLP.out]; exact hql
     have r1 : IntKind.i64.wrap ((q : Int) + 1) = (q : Int) + 1 := IntWalk.i64_in _ (by omega)
     have hcsz : ∀ c ∈ ds1, SizeOf.sizeOf c < n := fun c hc => by
      have := List.sizeOf_lt_of_mem hc
      simp only [Pip.mk.sizeOf_spec] at hsz2
      omega
     have HF : Hid (Pip.same (.mk ng1 ds1) (.mk ng2 ds2) = (ng1 == ng2 && eqAll Cmd.same ds1 ds2)) := Lib.hid (by rw [Pip.same, sameCmds_all])
     have HX3 : Hid (∀ w', Chg (fun _ => False) W2 w' → Rep w' S1 (.sl 49 9 (ds1.map Cmd.d)) [.slice A3 ds1.length n3] ∧ Rep w' S2 (.sl 49 9 (ds2.map Cmd.d)) [.slice A4 ds2.length n4]) :=
      Lib.hid (fun w' hc => ⟨hx3.stay hc (fun _ _ e => e), hx4.stay hc (fun _ _ e => e)⟩)
     have HR1 := Lib.hid r1
     clear hpp1 hpp2 hz1 hz2 hcs3 hcs4 hr3 hr4 hsz2 hl3 hl4 hx3 hx4 r1
     go_upto_region 16 with fail
     go_cut [8, 9] (fun v8 v9 wx => ∃ X Y, v8 = .pointer (some ⟨X, 0, none⟩) ∧ v9 = .pointer (some ⟨Y, 0, none⟩) ∧ wx.heap[X]? = some (.cells #[.bool ng1, .slice A3 ds1.length n3] 42 (0, 0)) ∧ wx.heap[Y]? = some (.cells #[.bool ng2, .slice A4 ds2.length n4] 42 (0, 0)) ∧ Chg (fun _ => False) W2 wx)
     case first =>
      go_region_held3 (fun w' => w'.cell? ⟨b1, o1 + k * 2, none⟩ = some (.slice (some ⟨b3, o3, none⟩) ps1.length n1) ∧ w'.cell? ⟨b2, o2 + k * 2, none⟩ = some (.slice (some ⟨b4, o4, none⟩) ps2.length n2) ∧ w'.cell? ⟨b3, o3 + q * 2, none⟩ = some (.bool ng1) ∧ w'.cell? ⟨b3, o3 + q * 2 + 1, none⟩ = some (.slice A3 ds1.length n3) ∧ w'.cell? ⟨b4, o4 + q * 2, none⟩ = some (.bool ng2) ∧ w'.cell? ⟨b4, o4 + q * 2 + 1, none⟩ = some (.slice A4 ds2.length n4)) (first | go_keep) (fail)
      ·go_wp2
       go_meet
       have q1 := row_alloc (row_new W2 (.cells #[.bool ng1, .slice A3 ds1.length n3] 42)) (.cells #[.bool ng2, .slice A4 ds2.length n4] 42)
       have q2 := row_new (W2.alloc (.cells #[.bool ng1, .slice A3 ds1.length n3] 42)) (.cells #[.bool ng2, .slice A4 ds2.length n4] 42)
       simp only [World.size_alloc] at q2
       exact ⟨_, _, rfl, rfl, q1, q2, (((Chg.refl _ W2).alloc _).alloc _).drewN 1⟩
      ·go_wp2
       go_meet
       have q1 := row_alloc (row_new W2 (.cells #[.bool ng2, .slice A4 ds2.length n4] 42)) (.cells #[.bool ng1, .slice A3 ds1.length n3] 42)
       have q2 := row_new (W2.alloc (.cells #[.bool ng2, .slice A4 ds2.length n4] 42)) (.cells #[.bool ng1, .slice A3 ds1.length n3] 42)
       simp only [World.size_alloc] at q2
       exact ⟨_, _, rfl, rfl, q2, q1, (((Chg.refl _ W2).alloc _).alloc _).drewN 1⟩
     case rest =>
      obtain ⟨X, Y, rfl, rfl, hX, hY, hC4⟩ := hcut
      generalize wc = W3 at *
      have hC5 := hC3.trans hC4 (fun _ h _ => h)
      have hcX := row_cells hX
      have hcY := row_cells hY
      clear j11 j21 k31 k32 k41 k42 hC3
      cases hg : (ng1 == ng2)
      case false =>
       have hg2 : (ng1 != ng2) = true := by simpa using hg
       have hR0 : Hid (R = false) := Lib.hid (by
        have e : eqAll Pip.same ps1 ps2 = false := by rw [← HQ.out, HD.out, HF.out, hg]; rfl
        rw [← HK.out, HB.out, HE2.out, e]; rfl)
       go_wp2
       go_ret
       exact ⟨by rw [hR0.out]; try rfl, hC.trans hC5 (fun _ h _ => h)⟩
      case true =>
       have hg2 : (ng1 != ng2) = false := by simpa using hg
       have HF2 : Hid (Pip.same (.mk ng1 ds1) (.mk ng2 ds2) = eqAll Cmd.same ds1 ds2) := Lib.hid (by rw [HF.out, hg]; rfl)
       by_cases hld : ds1.length = ds2.length
       rotate_left
       ·have t1 : ((ds1.length : Int) != (ds2.length : Int)) = true := by simp; omega
        have hR0 : Hid (R = false) := Lib.hid (by
         have e : eqAll Pip.same ps1 ps2 = false := by rw [← HQ.out, HD.out, HF2.out, eqAll_length _ ds1 ds2 hld]; rfl
         rw [← HK.out, HB.out, HE2.out, e]; rfl)
        go_wp2
        go_ret
        exact ⟨by rw [hR0.out]; try rfl, hC.trans hC5 (fun _ h _ => h)⟩
       have t1 : ((ds1.length : Int) != (ds2.length : Int)) = false := by simp; omega
       have HLD := Lib.hid hld; clear hld
       have HXY := Lib.hid (And.intro hX hY)
       go_wp2
       clear hX hY hcX hcY t1 HF hg hg2
       go_loopg [10] ds1.length (fun rk i wy => ∃ j : Nat, j + rk = ds1.length ∧ i = .int .i64 j ∧ Chg (fun _ => False) W3 wy ∧ Hid (eqAll Cmd.same (ds1.drop j) (ds2.drop j) = eqAll Cmd.same ds1 ds2))
       case atStart => exact ⟨0, by omega, rfl, Chg.refl _ _, Lib.hid (by simp)⟩
       case round =>
        obtain ⟨j, hj, rfl, hC6, HJ⟩ := hrel
        generalize wr = W4 at *
        have hX2 := row_chg HXY.out.1 hC6 (fun e => e)
        have hY2 := row_chg HXY.out.2 hC6 (fun e => e)
        have hcX := row_cells hX2
        have hcY := row_cells hY2
        by_cases hjl : j < ds1.length
        rotate_left
        ·have e : eqAll Cmd.same ds1 ds2 = true := by rw [← HJ.out, List.drop_eq_nil_of_le (by omega), List.drop_eq_nil_of_le (by rw [← HLD.out]; omega)]; rfl
         have hR0 : Hid (eqAll Pip.same (ps1.drop (q + 1)) (ps2.drop (q + 1)) = eqAll Pip.same ps1 ps2) := Lib.hid (by rw [← HQ.out, HD.out, HF2.out, e]; rfl)
         clear e hX2 hY2
         have r1 := HR1.out
         go_wp2
         go_roundg (ps1.length - (q + 1))
         case measure => omega
         case rel => exact ⟨q + 1, by omega, rfl, hC5.trans hC6 (fun _ h _ => h), hR0⟩
        have hz := HX3.out _ (hC4.trans hC6 (fun _ h _ => h))
        have hz1 := hz.1
        have hz2 := hz.2
        clear hz
        obtain ⟨c1, hc1⟩ : ∃ o, ds1[j]? = some o := ⟨ds1[j], List.getElem?_eq_getElem hjl⟩
        obtain ⟨c2, hc2⟩ : ∃ o, ds2[j]? = some o := ⟨ds2[j]'(by rw [← HLD.out]; exact hjl), List.getElem?_eq_getElem (by rw [← HLD.out]; exact hjl)⟩
        have HC := Lib.hid (eqAll_drop Cmd.same ds1 ds2 j c1 c2 hc1 hc2)
        have hcm := hcsz c1 (List.mem_of_getElem? hc1)
        obtain ⟨b5, o5, c5', cs5, hv5, hc5, hm5, _, hr5, hl5, hcs5⟩ := sl_get hz1 (by omega) j c1.d (by rw [List.getElem?_map, hc1]; rfl)
        obtain ⟨b6, o6, c6', cs6, hv6, _, _, _, hr6, hl6, hcs6⟩ := sl_get hz2 (by omega) j c2.d (by rw [List.getElem?_map, hc2]; rfl)
        simp only [List.length_map, Value.slice.injEq] at hv5 hv6
        obtain ⟨rfl, _, rfl⟩ := hv5
        obtain ⟨rfl, _, rfl⟩ := hv6
        simp only [List.length_map, maxLen] at hc5 hm5
        have HCM : Hid (∀ w', Chg (fun _ => False) W4 w' → Calls Tryz.prog 19 #[.agg cs5.toArray, .agg cs6.toArray] w' fun e w'' => e = .returned (.bool (Cmd.same c1 c2)) ∧ Chg (fun _ => False) w' w'') :=
         Lib.hid (fun w' hc => IH w' S1 S2 cs5 cs6 c1 c2 hcm (hr5.stay hc (fun _ _ e => e)) (hr6.stay hc (fun _ _ e => e)))
        obtain ⟨xk, xs, f1, f2, f3, f4, f5, f6, f7, f8, f9, f10, f11, f12, f13, f14, f15, f16, f17, f18, f19, f20, f21, rfl⟩ := cmd_formF hr5
        obtain ⟨yk, ys, e1, e2, e3, e4, e5, e6, e7, e8, e9, e10, e11, e12, e13, e14, e15, e16, e17, e18, e19, e20, e21, rfl⟩ := cmd_formF hr6
        have k50 := hcs5 0 _ rfl
        have k51 := hcs5 1 _ rfl
        have k52 := hcs5 2 _ rfl
        have k53 := hcs5 3 _ rfl
        have k54 := hcs5 4 _ rfl
        have k55 := hcs5 5 _ rfl
        have k56 := hcs5 6 _ rfl
        have k57 := hcs5 7 _ rfl
        have k58 := hcs5 8 _ rfl
        have k60 := hcs6 0 _ rfl
        have k61 := hcs6 1 _ rfl
        have k62 := hcs6 2 _ rfl
        have k63 := hcs6 3 _ rfl
        have k64 := hcs6 4 _ rfl
        have k65 := hcs6 5 _ rfl
        have k66 := hcs6 6 _ rfl
        have k67 := hcs6 7 _ rfl
        have k68 := hcs6 8 _ rfl
        simp only [Nat.add_zero, ← Nat.add_assoc] at k50 k51 k52 k53 k54 k55 k56 k57 k58 k60 k61 k62 k63 k64 k65 k66 k67 k68
        have hj2 : j < ds2.length := by rw [← HLD.out]; exact hjl
        have r2 : IntKind.i64.wrap ((j : Int) + 1) = (j : Int) + 1 := IntWalk.i64_in _ (by omega)
        clear hc1 hc2 hz1 hz2 hcs5 hcs6 hr5 hr6 hl5 hl6 hX2 hY2 hcm
        go_wp2
        refine still_tail2 10 (by kernel_rfl) (by kernel_rfl) ?_
        simp only [List.take_succ_cons, List.take_zero, List.drop_succ_cons, List.drop_zero]
        repeat still_step
        refine wpStill_nil ?_
        go_wp2_with fail
        refine (HCM.out _ ((Chg.refl (fun _ => False) W4).drewN 1)).mono ?_
        rintro e W5 ⟨rfl, hC7⟩
        have hC8 := (hC6.drewN 1).trans hC7 (fun _ h _ => h)
        clear hcX hcY k50 k51 k52 k53 k54 k55 k56 k57 k58 k60 k61 k62 k63 k64 k65 k66 k67 k68 hC6 hC7 HCM
        cases hcc : Cmd.same c1 c2
        case false =>
         have hR0 : Hid (R = false) := Lib.hid (by
          have e : eqAll Cmd.same ds1 ds2 = false := by rw [← HJ.out, HC.out, hcc]; rfl
          have e2 : eqAll Pip.same ps1 ps2 = false := by rw [← HQ.out, HD.out, HF2.out, e]; rfl
          rw [← HK.out, HB.out, HE2.out, e2]; rfl)
         go_wp2
         go_ret
         exact ⟨by rw [hR0.out]; try rfl, (hC.trans hC5 (fun _ h _ => h)).trans hC8 (fun _ h _ => h)⟩
        case true =>
         have hR0 : Hid (eqAll Cmd.same (ds1.drop (j + 1)) (ds2.drop (j + 1)) = eqAll Cmd.same ds1 ds2) := Lib.hid (by rw [← HJ.out, HC.out, hcc]; rfl)
         go_wp2
         go_roundg (ds1.length - (j + 1))
         case measure => omega
         case rel => exact ⟨j + 1, by omega, rfl, hC8, hR0⟩
theorem rcmd_all : ∀ n, RCmd n
 | 0 => fun _ _ _ _ _ _ _ h => absurd h (Nat.not_lt_zero _)
 | n + 1 => rcmd_step n (rsame_step n (rcmd_all n))
theorem rsame_calls (w : World) (S1 S2 : Nat → Prop) (v1 v2 : Value) (a b : List Lst) (h1 : Rep w S1 (.sl 39 2 (Lst.ds a)) [v1]) (h2 : Rep w S2 (.sl 39 2 (Lst.ds b)) [v2]) :
  Calls Tryz.prog 11 #[v1, v2] w fun e w' => e = .returned (.bool (sameLs a b)) ∧ Chg (fun _ => False) w w' :=
 rsame_step _ (rcmd_all (SizeOf.sizeOf a + 1)) w S1 S2 v1 v2 a b (Nat.lt_succ_self _) h1 h2
def SizeSaid (f : Nat) : Prop := ∀ (w : World) (S : Nat → Prop) (v : Value) (ps : List Part) (deep : Nat), deep + f = 41 → Part.lims ps → Rep w S (.sl 103 5 (Part.ds ps)) [v] →
 Calls Tryz.prog 30 #[v, .int .i64 deep] w fun e w' => e = .returned (.int .i64 (sizeW f ps)) ∧ ∃ m, w' = w.drewN m
set_option maxRecDepth 100000 in
set_option maxHeartbeats 4000000 in
theorem size_step (f : Nat) (IH : SizeSaid f) : SizeSaid (f + 1) := by
 intro w S v ps deep hd hl h
 obtain ⟨A, c, rfl⟩ := sl_form2 h
 rw [Part.ds_length] at h ⊢
 have hmax : ps.length ≤ c ∧ c ≤ maxLen := by
  obtain ⟨_, _, _, h1, h2, h3, _⟩ := h
  simp only [List.cons.injEq, Value.slice.injEq, and_true] at h1
  rw [Part.ds_length] at h2
  exact ⟨by omega, by omega⟩
 unfold maxLen at hmax
 have q1 : decide ((40 : Int) < (deep : Int)) = false := by simp; omega
 generalize hR : sizeW (f + 1) ps = R
 rw [sizeW] at hR
 by_cases hg : 4000 < ps.length
 ·have q2 : decide ((4000 : Int) < (ps.length : Int)) = true := by simp; omega
  rw [if_pos hg] at hR
  subst hR
  go_enter Tryz.func30, Tryz.ntmps30
  go_wp2
  go_ret
  exact ⟨rfl, 0, rfl⟩
 ·have q2 : decide ((4000 : Int) < (ps.length : Int)) = false := by simp; omega
  rw [if_neg hg] at hR
  have HR := Lib.hid hR; clear hR
  have hB : ps.length ≤ 5000 + 41 * 281474976714656 := by omega
  have hf : f ≤ 40 := by omega
  have r1 : IntKind.i64.wrap ((deep : Int) + 1) = ((deep + 1 : Nat) : Int) := by rw [IntWalk.i64_in _ (by omega)]; omega
  go_enter Tryz.func30, Tryz.ntmps30
  go_wp2
  go_loopg [5, 6] ps.length (fun rk nv i wr => ∃ k n : Nat, k + rk = ps.length ∧ i = .int .i64 k ∧ nv = .int .i64 n ∧ n ≤ 5000 + 41 * 281474976714656 ∧ (∃ m, wr = w.drewN m) ∧ Hid (sizeL (sizeW f) n (ps.drop k) = R))
  case atStart => exact ⟨0, ps.length, by omega, rfl, rfl, hB, ⟨0, rfl⟩, Lib.hid (by simpa using HR.out)⟩
  case round =>
   clear hB HR
   obtain ⟨k, n, hk, rfl, rfl, hn, ⟨m, hm⟩, HK⟩ := hrel
   have h' : Rep wr S (.sl 103 5 (Part.ds ps)) [.slice A ps.length c] := by rw [hm]; exact h.stay ((Chg.refl (fun _ => False) _).drewN _) (fun _ _ e => e)
   clear h
   have HM := Lib.hid hm; clear hm
   by_cases hlt : k < ps.length
   ·by_cases hn4 : 4000 < n
    ·have q3 : decide ((n : Int) ≤ 4000) = false := by simp; omega
     have hR0 : Hid (n = R) := Lib.hid (by rw [← HK.out, sizeL_stop _ _ _ hn4])
     go_wp2
     go_ret
     exact ⟨by rw [hR0.out]; try rfl, m, HM.out⟩
    ·have q3 : decide ((n : Int) ≤ 4000) = true := by simp; omega
     obtain ⟨p, hp⟩ : ∃ p, ps[k]? = some p := ⟨ps[k], List.getElem?_eq_getElem hlt⟩
     have HS := Lib.hid (sizeL_step (sizeW f) ps k n p hp hn4)
     have hlp := lims_mem hl hp
     obtain ⟨b1, o1, c1', cs1, hv1, _, _, hb1, hr1, _, hcs1⟩ := sl_get h' (by omega) k p.d (by rw [Part.ds_map, List.getElem?_map, hp]; rfl)
     simp only [Part.ds_length, Value.slice.injEq] at hv1
     obtain ⟨rfl, _, rfl⟩ := hv1
     obtain ⟨kd, qd, td, od, wd⟩ := p
     obtain ⟨lt, lo, lw⟩ := hlp
     obtain ⟨Aw, cw, rfl, hw1, _⟩ := part_rep2 hr1
     have g12 := hcs1 2 _ rfl
     have g13 := hcs1 3 _ rfl
     have g14 := hcs1 4 _ rfl
     simp only [Nat.add_zero, ← Nat.add_assoc] at g12 g13 g14
     have hcall : ∀ m' : Nat, Calls Tryz.prog 30 #[.slice Aw wd.length cw, .int .i64 ((deep + 1 : Nat) : Int)] (wr.drewN m') fun e w' => e = .returned (.int .i64 (sizeW f wd)) ∧ ∃ n, w' = (wr.drewN m').drewN n :=
      fun m' => IH (wr.drewN m') S _ wd (deep + 1) (by omega) lw (hw1.stay ((Chg.refl (fun _ => False) _).drewN _) (fun _ _ e => e))
     have hG := sizeW_le f wd lw
     have hG2 : sizeW f wd ≤ 5000 + 40 * 281474976714656 := Nat.le_trans hG (by have : f * 281474976714656 ≤ 40 * 281474976714656 := Nat.mul_le_mul_right _ hf; omega)
     have st : (bstr td).size = td.length := bstr_size td
     have so : (bstr od).size = od.length := bstr_size od
     simp only [Part.text, Part.op, Part.word] at HS
     have HRN : Hid (sizeL (sizeW f) (n + td.length + od.length + sizeW f wd) (ps.drop (k + 1)) = R) := Lib.hid (by rw [← HS.out, HK.out])
     clear hcs1 hr1 hp h' hw1 hG HS HK hl lw hb1
     generalize sizeW f wd = G at *
     generalize bstr td = tb at *
     generalize bstr od = ob at *
     have r2 : IntKind.i64.wrap ((n : Int) + (tb.size : Int)) = (n : Int) + (tb.size : Int) := IntWalk.i64_in _ (by omega)
     have r3 : IntKind.i64.wrap ((n : Int) + (tb.size : Int) + (ob.size : Int)) = (n : Int) + (tb.size : Int) + (ob.size : Int) := IntWalk.i64_in _ (by omega)
     have r4 : IntKind.i64.wrap ((n : Int) + (tb.size : Int) + (ob.size : Int) + (G : Int)) = (n : Int) + (tb.size : Int) + (ob.size : Int) + (G : Int) := IntWalk.i64_in _ (by omega)
     have r5 : IntKind.i64.wrap ((k : Int) + 1) = (k : Int) + 1 := IntWalk.i64_in _ (by omega)
     go_wp2
     go_quiet ((go_at_call 30; exact (hcall _).quiet_of))
     go_wp2
     go_roundg (gk - 1)
     case measure => omega
     case rel => exact ⟨k + 1, n + td.length + od.length + G, by omega, rfl, by rw [← st, ← so]; simp, by omega, ⟨m + nq, by rw [HM.out, World.drewN_drewN]⟩, HRN⟩
   ·have hR0 : Hid (n = R) := Lib.hid (by rw [← HK.out, List.drop_eq_nil_of_le (by omega)]; rfl)
    go_wp2
    go_ret
    exact ⟨by rw [hR0.out]; try rfl, m, HM.out⟩
set_option maxRecDepth 100000 in
theorem size_base : SizeSaid 0 := by
 intro w S v ps deep hd hl h
 obtain ⟨A, c, rfl⟩ := sl_form2 h
 rw [Part.ds_length]
 obtain rfl : deep = 41 := by omega
 rw [sizeW]
 go_enter Tryz.func30, Tryz.ntmps30
 go_wp2
 go_ret
 exact ⟨rfl, 0, rfl⟩
theorem size_all : ∀ f, SizeSaid f
 | 0 => size_base
 | f + 1 => size_step f (size_all f)
theorem size_calls (w : World) (S : Nat → Prop) (v : Value) (ps : List Part) (hl : Part.lims ps) (h : Rep w S (.sl 103 5 (Part.ds ps)) [v]) :
  Calls Tryz.prog 30 #[v, .int .i64 0] w fun e w' => e = .returned (.int .i64 (sizeW 41 ps)) ∧ ∃ m, w' = w.drewN m :=
 size_all 41 w S v ps 0 (by omega) hl h
end Go.Proofs.YtdfnkmiabmjolaaGreatDoor
namespace Go.Proofs.YtdfnkmiabmjolaaGreatDoor
abbrev wr64 (n : Int) : Int := Go.RowKit.wrap64 n
def szW : Int → List (List Part) → Int
 | n, [] => n
 | n, w :: ws => if n ≤ 3000 then szW (wr64 (n + (sizeW 41 w : Nat))) ws else n
def szWords (ws : List (List Part)) : Int := szW ws.length ws
def szO : Int → List Bytes → Int
 | n, [] => n
 | n, o :: os => if n ≤ 3000 then szO (wr64 (n + (o.length : Nat))) os else n
def szA : Int → List Asg → Int
 | n, [] => n
 | n, x :: xs => if n ≤ 3000 then szA (wr64 (wr64 (n + (x.name.length : Nat)) + (sizeW 41 x.word : Nat))) xs else n
def szR : Int → List Rdr → Int
 | n, [] => n
 | n, x :: xs => if n ≤ 3000 then szR (wr64 (wr64 (n + (x.op.length : Nat)) + (sizeW 41 x.word : Nat))) xs else n
def Cas.pats : Cas → List (List Part) | .mk ps _ => ps
def Cas.body : Cas → List Lst | .mk _ b => b
def szCa (g : List Lst → Int) : Int → List Cas → Int
 | n, [] => n
 | n, c :: cs => if n ≤ 3000 then szCa g (wr64 (wr64 (n + szWords c.pats) + g c.body)) cs else n
def szC0 (n : Bytes) (ws : List (List Part)) (xs rs ca : Nat) : Int := wr64 (wr64 (wr64 (wr64 (wr64 (1 + (n.length : Nat)) + szWords ws) + xs) + rs) + ca)
def szC1 (g : List Lst → Int) (n1 : Int) (co bo ot : List Lst) : Int := if 3000 < n1 then n1 else wr64 (wr64 (wr64 (n1 + g co) + g bo) + g ot)
def szC (g : List Lst → Int) : Cmd → Int
 | .mk k n xs ws co bo ot ca rs => szC1 g (szCa g (szR (szA (szC0 n ws xs.length rs.length ca.length) xs) rs) ca) co bo ot
def szCs (g : List Lst → Int) : Int → List Cmd → Int
 | n, [] => n
 | n, c :: cs => if n ≤ 3000 then szCs g (wr64 (n + szC g c)) cs else n
def Pip.cmds : Pip → List Cmd | .mk _ cs => cs
def szP (g : List Lst → Int) : Int → List Pip → Int
 | n, [] => n
 | n, p :: ps => if n ≤ 3000 then szP g (szCs g (wr64 (n + (p.cmds.length : Nat))) p.cmds) ps else n
def Lst.pipes : Lst → List Pip | .mk ps _ => ps
def Lst.ops : Lst → List Bytes | .mk _ os => os
def szL (g : List Lst → Int) : Int → List Lst → Int
 | n, [] => n
 | n, l :: ls => if n ≤ 3000 then szL g (szP g (szO (wr64 (wr64 (n + (l.ops.length : Nat)) + (l.pipes.length : Nat))) l.ops) l.pipes) ls else n
def szLs : Nat → List Lst → Int
 | 0, _ => 4000
 | f + 1, ls => szL (szLs f) ls.length ls
section
variable {α : Type} {f : Int → List α → Int} {h : Int → α → Int}
theorem loop_step (hf : ∀ n x xs, f n (x :: xs) = if n ≤ 3000 then f (h n x) xs else n) (l : List α) (k : Nat) (n : Int) (x : α) (hx : l[k]? = some x) (hn : n ≤ 3000) : f n (l.drop k) = f (h n x) (l.drop (k + 1)) := by
 obtain ⟨h1, e1⟩ := List.getElem?_eq_some_iff.1 hx
 rw [List.drop_eq_getElem_cons h1, hf, if_pos hn, e1]
theorem loop_stop (h0 : ∀ n, f n [] = n) (hf : ∀ n x xs, f n (x :: xs) = if n ≤ 3000 then f (h n x) xs else n) (l : List α) (n : Int) (hn : ¬ n ≤ 3000) : f n l = n := by
 cases l with
 | nil => exact h0 n
 | cons x xs => rw [hf, if_neg hn]
end
theorem szW_step (l : List (List Part)) (k : Nat) (n : Int) (x : List Part) (hx : l[k]? = some x) (hn : n ≤ 3000) : szW n (l.drop k) = szW (wr64 (n + (sizeW 41 x : Nat))) (l.drop (k + 1)) := loop_step (f := szW) (h := fun n x => wr64 (n + (sizeW 41 x : Nat))) (fun _ _ _ => rfl) l k n x hx hn
theorem szW_stop (l : List (List Part)) (n : Int) (hn : ¬ n ≤ 3000) : szW n l = n := loop_stop (f := szW) (h := fun n x => wr64 (n + (sizeW 41 x : Nat))) (fun _ => rfl) (fun _ _ _ => rfl) l n hn
theorem szO_step (l : List (Bytes)) (k : Nat) (n : Int) (x : Bytes) (hx : l[k]? = some x) (hn : n ≤ 3000) : szO n (l.drop k) = szO (wr64 (n + (x.length : Nat))) (l.drop (k + 1)) := loop_step (f := szO) (h := fun n x => wr64 (n + (x.length : Nat))) (fun _ _ _ => rfl) l k n x hx hn
theorem szO_stop (l : List (Bytes)) (n : Int) (hn : ¬ n ≤ 3000) : szO n l = n := loop_stop (f := szO) (h := fun n x => wr64 (n + (x.length : Nat))) (fun _ => rfl) (fun _ _ _ => rfl) l n hn
theorem szA_step (l : List (Asg)) (k : Nat) (n : Int) (x : Asg) (hx : l[k]? = some x) (hn : n ≤ 3000) : szA n (l.drop k) = szA (wr64 (wr64 (n + (x.name.length : Nat)) + (sizeW 41 x.word : Nat))) (l.drop (k + 1)) := loop_step (f := szA) (h := fun n x => wr64 (wr64 (n + (x.name.length : Nat)) + (sizeW 41 x.word : Nat))) (fun _ _ _ => rfl) l k n x hx hn
theorem szA_stop (l : List (Asg)) (n : Int) (hn : ¬ n ≤ 3000) : szA n l = n := loop_stop (f := szA) (h := fun n x => wr64 (wr64 (n + (x.name.length : Nat)) + (sizeW 41 x.word : Nat))) (fun _ => rfl) (fun _ _ _ => rfl) l n hn
theorem szR_step (l : List (Rdr)) (k : Nat) (n : Int) (x : Rdr) (hx : l[k]? = some x) (hn : n ≤ 3000) : szR n (l.drop k) = szR (wr64 (wr64 (n + (x.op.length : Nat)) + (sizeW 41 x.word : Nat))) (l.drop (k + 1)) := loop_step (f := szR) (h := fun n x => wr64 (wr64 (n + (x.op.length : Nat)) + (sizeW 41 x.word : Nat))) (fun _ _ _ => rfl) l k n x hx hn
theorem szR_stop (l : List (Rdr)) (n : Int) (hn : ¬ n ≤ 3000) : szR n l = n := loop_stop (f := szR) (h := fun n x => wr64 (wr64 (n + (x.op.length : Nat)) + (sizeW 41 x.word : Nat))) (fun _ => rfl) (fun _ _ _ => rfl) l n hn
theorem szCa_step (g : List Lst → Int) (l : List (Cas)) (k : Nat) (n : Int) (x : Cas) (hx : l[k]? = some x) (hn : n ≤ 3000) : szCa g n (l.drop k) = szCa g (wr64 (wr64 (n + szWords x.pats) + g x.body)) (l.drop (k + 1)) := loop_step (f := (szCa g)) (h := fun n x => wr64 (wr64 (n + szWords x.pats) + g x.body)) (fun _ _ _ => rfl) l k n x hx hn
theorem szCa_stop (g : List Lst → Int) (l : List (Cas)) (n : Int) (hn : ¬ n ≤ 3000) : szCa g n l = n := loop_stop (f := (szCa g)) (h := fun n x => wr64 (wr64 (n + szWords x.pats) + g x.body)) (fun _ => rfl) (fun _ _ _ => rfl) l n hn
theorem szCs_step (g : List Lst → Int) (l : List (Cmd)) (k : Nat) (n : Int) (x : Cmd) (hx : l[k]? = some x) (hn : n ≤ 3000) : szCs g n (l.drop k) = szCs g (wr64 (n + szC g x)) (l.drop (k + 1)) := loop_step (f := (szCs g)) (h := fun n x => wr64 (n + szC g x)) (fun _ _ _ => rfl) l k n x hx hn
theorem szCs_stop (g : List Lst → Int) (l : List (Cmd)) (n : Int) (hn : ¬ n ≤ 3000) : szCs g n l = n := loop_stop (f := (szCs g)) (h := fun n x => wr64 (n + szC g x)) (fun _ => rfl) (fun _ _ _ => rfl) l n hn
theorem szP_step (g : List Lst → Int) (l : List (Pip)) (k : Nat) (n : Int) (x : Pip) (hx : l[k]? = some x) (hn : n ≤ 3000) : szP g n (l.drop k) = szP g (szCs g (wr64 (n + (x.cmds.length : Nat))) x.cmds) (l.drop (k + 1)) := loop_step (f := (szP g)) (h := fun n x => szCs g (wr64 (n + (x.cmds.length : Nat))) x.cmds) (fun _ _ _ => rfl) l k n x hx hn
theorem szP_stop (g : List Lst → Int) (l : List (Pip)) (n : Int) (hn : ¬ n ≤ 3000) : szP g n l = n := loop_stop (f := (szP g)) (h := fun n x => szCs g (wr64 (n + (x.cmds.length : Nat))) x.cmds) (fun _ => rfl) (fun _ _ _ => rfl) l n hn
theorem szL_step (g : List Lst → Int) (l : List (Lst)) (k : Nat) (n : Int) (x : Lst) (hx : l[k]? = some x) (hn : n ≤ 3000) : szL g n (l.drop k) = szL g (szP g (szO (wr64 (wr64 (n + (x.ops.length : Nat)) + (x.pipes.length : Nat))) x.ops) x.pipes) (l.drop (k + 1)) := loop_step (f := (szL g)) (h := fun n x => szP g (szO (wr64 (wr64 (n + (x.ops.length : Nat)) + (x.pipes.length : Nat))) x.ops) x.pipes) (fun _ _ _ => rfl) l k n x hx hn
theorem szL_stop (g : List Lst → Int) (l : List (Lst)) (n : Int) (hn : ¬ n ≤ 3000) : szL g n l = n := loop_stop (f := (szL g)) (h := fun n x => szP g (szO (wr64 (wr64 (n + (x.ops.length : Nat)) + (x.pipes.length : Nat))) x.ops) x.pipes) (fun _ => rfl) (fun _ _ _ => rfl) l n hn
def limWords (ws : List (List Part)) : Prop := ∀ w ∈ ws, Part.lims w
mutual
def Cmd.lim : Cmd → Prop
 | .mk _ _ xs ws co bo ot ca rs => (∀ x ∈ xs, Part.lims x.word) ∧ limWords ws ∧ limLs co ∧ limLs bo ∧ limLs ot ∧ limCas ca ∧ ∀ x ∈ rs, Part.lims x.word
def limCmds : List Cmd → Prop
 | [] => True
 | x :: xs => Cmd.lim x ∧ limCmds xs
def Cas.lim : Cas → Prop
 | .mk ps b => limWords ps ∧ limLs b
def limCas : List Cas → Prop
 | [] => True
 | x :: xs => Cas.lim x ∧ limCas xs
def Pip.lim : Pip → Prop
 | .mk _ cs => limCmds cs
def limPips : List Pip → Prop
 | [] => True
 | x :: xs => Pip.lim x ∧ limPips xs
def Lst.lim : Lst → Prop
 | .mk ps _ => limPips ps
def limLs : List Lst → Prop
 | [] => True
 | x :: xs => Lst.lim x ∧ limLs xs
end
theorem limCmds_mem : ∀ {l : List Cmd}, limCmds l → ∀ x ∈ l, x.lim
 | [], _, x, h => by cases h
 | y :: l, hl, x, h => by
  rw [limCmds] at hl
  rcases List.mem_cons.1 h with rfl | h
  ·exact hl.1
  ·exact limCmds_mem hl.2 x h
theorem limCas_mem : ∀ {l : List Cas}, limCas l → ∀ x ∈ l, x.lim
 | [], _, x, h => by cases h
 | y :: l, hl, x, h => by
  rw [limCas] at hl
  rcases List.mem_cons.1 h with rfl | h
  ·exact hl.1
  ·exact limCas_mem hl.2 x h
theorem limPips_mem : ∀ {l : List Pip}, limPips l → ∀ x ∈ l, x.lim
 | [], _, x, h => by cases h
 | y :: l, hl, x, h => by
  rw [limPips] at hl
  rcases List.mem_cons.1 h with rfl | h
  ·exact hl.1
  ·exact limPips_mem hl.2 x h
theorem limLs_mem : ∀ {l : List Lst}, limLs l → ∀ x ∈ l, x.lim
 | [], _, x, h => by cases h
 | y :: l, hl, x, h => by
  rw [limLs] at hl
  rcases List.mem_cons.1 h with rfl | h
  ·exact hl.1
  ·exact limLs_mem hl.2 x h
end Go.Proofs.YtdfnkmiabmjolaaGreatDoor
namespace Go.Proofs.YtdfnkmiabmjolaaGreatDoor
open Go.RowKit
set_option maxRecDepth 100000 in
set_option maxHeartbeats 4000000 in
theorem szwords_calls (w : World) (S : Nat → Prop) (v : Value) (ws : List (List Part)) (hl : limWords ws) (h : Rep w S (wordsD ws) [v]) :
  Calls Tryz.prog 29 #[v] w fun e w' => e = .returned (.int .i64 (szWords ws)) ∧ ∃ m, w' = w.drewN m := by
 unfold wordsD at h
 obtain ⟨B1, d1, rfl⟩ := sl_form2 h
 rw [List.length_map] at h
 have hx1 := rep_max h
 rw [List.length_map] at hx1
 rw [List.length_map]
 generalize hR : szWords ws = R
 unfold szWords at hR
 have HR := Lib.hid hR; clear hR
 go_enter Tryz.func29, Tryz.ntmps29
 go_wp2
 go_loopg [3, 4] ws.length (fun rk nv i wr => ∃ k : Nat, ∃ n : Int, k + rk = ws.length ∧ i = .int .i64 k ∧ nv = .int .i64 n ∧ (∃ m, wr = w.drewN m) ∧ Hid (szW n (ws.drop k) = R))
 case atStart => exact ⟨0, ws.length, by omega, rfl, rfl, ⟨0, rfl⟩, Lib.hid (by simpa using HR.out)⟩
 case round =>
  obtain ⟨k, n, hk, rfl, rfl, ⟨m, hm⟩, HK⟩ := hrel
  have hC : Chg (fun _ => False) w wr := by rw [hm]; exact (Chg.refl _ w).drewN m
  have h' := h.stay hC (fun _ _ e => e)
  clear h hC
  have HM := Lib.hid hm; clear hm
  by_cases hlt : k < ws.length
  ·by_cases hn : n ≤ 3000
   ·obtain ⟨p, hp⟩ : ∃ p, ws[k]? = some p := ⟨ws[k], List.getElem?_eq_getElem hlt⟩
    have HB := Lib.hid (szW_step ws k n p hp hn)
    have hlp := hl p (List.mem_of_getElem? hp)
    obtain ⟨b1, o1, c1', cs1, hv1, _, _, hb1, hr1, hl1, hcs1⟩ := sl_get h' (by omega) k (wordD p) (by rw [List.getElem?_map, hp]; rfl)
    simp only [List.length_map, Value.slice.injEq] at hv1
    obtain ⟨rfl, _, rfl⟩ := hv1
    obtain ⟨u1, rfl, q1⟩ := rep_sl hr1
    have ga := hcs1 0 _ rfl
    simp only [Nat.add_zero, Nat.mul_one, ← Nat.add_assoc] at ga
    have hcall : Calls Tryz.prog 30 #[u1, .int .i64 0] wr fun e w' => e = .returned (.int .i64 (sizeW 41 p)) ∧ ∃ n, w' = wr.drewN n := size_calls wr S u1 p hlp q1
    obtain ⟨A1, n1, c1, rfl⟩ := sl_formN q1
    have q3 : decide (n ≤ 3000) = true := by simpa using hn
    have r0 : IntKind.i64.wrap ((k : Int) + 1) = (k : Int) + 1 := IntWalk.i64_in _ (by omega)
    have hR0 : Hid (szW (wr64 (n + (sizeW 41 p : Nat))) (ws.drop (k + 1)) = R) := Lib.hid (by rw [← HB.out, HK.out])
    clear hp h' hr1 hcs1 hl1 q1 HB HK hlp hn
    generalize sizeW 41 p = G at *
    go_wp2_with fail
    refine Calls.mono hcall ?_
    rintro e w5 ⟨rfl, nq, rfl⟩
    go_wp2
    go_roundg (gk - 1)
    case measure => omega
    case rel => exact ⟨k + 1, wr64 (n + (G : Nat)), by omega, rfl, rfl, ⟨m + nq, by rw [HM.out, World.drewN_drewN]⟩, hR0⟩
   ·have q3 : decide (n ≤ 3000) = false := by simpa using hn
    have hR0 : Hid (n = R) := Lib.hid (by rw [← HK.out, szW_stop _ _ hn])
    clear h' hn
    go_wp2
    go_ret
    exact ⟨by rw [hR0.out]; try rfl, m, HM.out⟩
  ·have hR0 : Hid (n = R) := Lib.hid (by rw [← HK.out, List.drop_eq_nil_of_le (by omega)]; rfl)
   clear h'
   go_wp2
   go_ret
   exact ⟨by rw [hR0.out]; try rfl, m, HM.out⟩
def SzSaid (f : Nat) : Prop := ∀ (w : World) (S : Nat → Prop) (v : Value) (ls : List Lst) (deep : Nat), deep + f = 41 → limLs ls → Rep w S (.sl 39 2 (Lst.ds ls)) [v] →
 Calls Tryz.prog 7 #[v, .int .i64 deep] w fun e w' => e = .returned (.int .i64 (szLs f ls)) ∧ Chg (fun _ => False) w w'
def SzCmd (f : Nat) : Prop := ∀ (w : World) (S : Nat → Prop) (cs : List Value) (c : Cmd) (deep : Nat), deep + f = 40 → c.lim → Rep w S c.d cs →
 Calls Tryz.prog 15 #[.agg cs.toArray, .int .i64 deep] w fun e w' => e = .returned (.int .i64 (szC (szLs f) c)) ∧ Chg (fun _ => False) w w'
set_option maxRecDepth 100000 in
set_option maxHeartbeats 8000000 in
theorem szcmd_step (f : Nat) (IH : SzSaid f) : SzCmd f := by
 intro w S cs c deep hd hlim h
 obtain ⟨kd, n, xs, ws, co, bo, ot, ca, rs⟩ := c
 obtain ⟨a1, a2, a3, a4, a5, a6, a7, rfl, r1, r2, r3, r4, r5, r6, r7⟩ := cmd_rep.1 h
 clear h
 rw [Cmd.lim] at hlim
 obtain ⟨lx, lw, lco, lbo, lot, lca, lr⟩ := hlim
 rw [Cas.ds_map] at r6
 have hd2 : IntKind.i64.wrap ((deep : Int) + 1) = (deep : Int) + 1 := IntWalk.i64_in _ (by omega)
 have hd3 : ((deep + 1 : Nat) : Int) = (deep : Int) + 1 := by omega
 have HW : Hid (∀ w', Chg (fun _ => False) w w' → Calls Tryz.prog 29 #[a2] w' fun e w'' => e = .returned (.int .i64 (szWords ws)) ∧ ∃ m, w'' = w'.drewN m) :=
  Lib.hid (fun w' hc => szwords_calls w' S _ ws lw (r2.stay hc (fun _ _ e => e)))
 have HCo : Hid (∀ w', Chg (fun _ => False) w w' → Calls Tryz.prog 7 #[a3, .int .i64 ((deep : Int) + 1)] w' fun e w'' => e = .returned (.int .i64 (szLs f co)) ∧ Chg (fun _ => False) w' w'') :=
  Lib.hid (fun w' hc => by rw [← hd3]; exact IH w' S _ co (deep + 1) (by omega) lco (r3.stay hc (fun _ _ e => e)))
 have HBo : Hid (∀ w', Chg (fun _ => False) w w' → Calls Tryz.prog 7 #[a4, .int .i64 ((deep : Int) + 1)] w' fun e w'' => e = .returned (.int .i64 (szLs f bo)) ∧ Chg (fun _ => False) w' w'') :=
  Lib.hid (fun w' hc => by rw [← hd3]; exact IH w' S _ bo (deep + 1) (by omega) lbo (r4.stay hc (fun _ _ e => e)))
 have HOt : Hid (∀ w', Chg (fun _ => False) w w' → Calls Tryz.prog 7 #[a5, .int .i64 ((deep : Int) + 1)] w' fun e w'' => e = .returned (.int .i64 (szLs f ot)) ∧ Chg (fun _ => False) w' w'') :=
  Lib.hid (fun w' hc => by rw [← hd3]; exact IH w' S _ ot (deep + 1) (by omega) lot (r5.stay hc (fun _ _ e => e)))
 have hcab : ∀ c ∈ ca, Cas.lim c := limCas_mem lca
 obtain ⟨A1, c1, rfl⟩ := sl_form2 r1
 obtain ⟨A2, l2, c2, rfl⟩ := sl_formN r2
 obtain ⟨A3, l3, c3, rfl⟩ := sl_formN r3
 obtain ⟨A4, l4, c4, rfl⟩ := sl_formN r4
 obtain ⟨A5, l5, c5, rfl⟩ := sl_formN r5
 obtain ⟨A6, c6, rfl⟩ := sl_form2 r6
 obtain ⟨A7, c7, rfl⟩ := sl_form2 r7
 simp only [List.length_map] at r1 r6 r7 ⊢
 have HX : Hid (∀ w', Chg (fun _ => False) w w' → Rep w' S (.sl 72 2 (xs.map Asg.d)) [.slice A1 xs.length c1] ∧ Rep w' S (.sl 75 3 (rs.map Rdr.d)) [.slice A7 rs.length c7] ∧ Rep w' S (.sl 77 2 (ca.map Cas.d)) [.slice A6 ca.length c6]) :=
  Lib.hid (fun w' hc => ⟨r1.stay hc (fun _ _ e => e), r7.stay hc (fun _ _ e => e), r6.stay hc (fun _ _ e => e)⟩)
 clear r1 r2 r3 r4 r5 r6 r7 lco lbo lot lca lw
 have hnl : n.length = (bstr n).size := (bstr_size n).symm
 generalize hR : szC (szLs f) (.mk kd n xs ws co bo ot ca rs) = R
 rw [szC] at hR
 generalize hn0 : szC0 n ws xs.length rs.length ca.length = N0 at hR
 unfold szC0 at hn0
 rw [hnl] at hn0
 have HN0 := Lib.hid hn0; clear hn0 hnl
 generalize hn1 : szA N0 xs = N1 at hR
 generalize hn2 : szR N1 rs = N2 at hR
 generalize hn3 : szCa (szLs f) N2 ca = N3 at hR
 have HN1 := Lib.hid hn1; clear hn1
 have HN2 := Lib.hid hn2; clear hn2
 have HN3 := Lib.hid hn3; clear hn3
 have HR := Lib.hid hR; clear hR
 generalize bstr n = nb at *
 generalize szWords ws = G0 at *
 go_enter Tryz.func15, Tryz.ntmps15
 go_wp2
 have hC0 : Chg (fun _ => False) w (w.alloc (.cells #[.int .i64 kd, .string nb, .slice A1 xs.length c1, .slice A2 l2 c2, .slice A3 l3 c3, .slice A4 l4 c4, .slice A5 l5 c5, .slice A6 ca.length c6, .slice A7 rs.length c7] 49)) := (Chg.refl _ w).alloc _
 have hra := row_new w (.cells #[.int .i64 kd, .string nb, .slice A1 xs.length c1, .slice A2 l2 c2, .slice A3 l3 c3, .slice A4 l4 c4, .slice A5 l5 c5, .slice A6 ca.length c6, .slice A7 rs.length c7] 49)
 generalize w.alloc (.cells #[.int .i64 kd, .string nb, .slice A1 xs.length c1, .slice A2 l2 c2, .slice A3 l3 c3, .slice A4 l4 c4, .slice A5 l5 c5, .slice A6 ca.length c6, .slice A7 rs.length c7] 49) = W at *
 generalize w.heap.size = X at *
 have HXR := Lib.hid hra
 have HC0 := Lib.hid hC0
 have hcX := row_cells hra
 have hcall : ∀ m' : Nat, Calls Tryz.prog 29 #[.slice A2 l2 c2] (W.drewN m') fun e w' => e = .returned (.int .i64 G0) ∧ ∃ n, w' = (W.drewN m').drewN n := fun m' => HW.out _ (hC0.drewN m')
 clear hra hC0 HW
 go_quiet ((go_at_call 29; exact (hcall _).quiet_of))
 clear hcall hcX
 have hW1 : Chg (fun _ => False) W (W.drewN nq) := (Chg.refl _ W).drewN nq
 generalize W.drewN nq = W1 at *
 go_upto_block 0 with fail
 go_cut [5] (fun v5 wx => v5 = .int .i64 N1 ∧ Chg (fun _ => False) W wx)
 case first =>
  go_wp2
  go_loopg [5, 6] xs.length (fun rk nv i wx => ∃ j : Nat, ∃ n : Int, j + rk = xs.length ∧ i = .int .i64 j ∧ nv = .int .i64 n ∧ Chg (fun _ => False) W wx ∧ Hid (szA n (xs.drop j) = N1))
  case atStart => exact ⟨0, N0, by omega, rfl, by rw [← HN0.out], hW1, Lib.hid (by simpa using HN1.out)⟩
  case round =>
   obtain ⟨j, n, hj, rfl, rfl, hC2, HK⟩ := hrel
   generalize wr = W2 at *
   have hX2 := row_chg HXR.out hC2 (fun e => e)
   have hcX := row_cells hX2
   by_cases hjl : j < xs.length
   ·by_cases hn : n ≤ 3000
    ·have q3 : decide (n ≤ 3000) = true := by simpa using hn
     have hz1 := (HX.out _ (HC0.out.trans hC2 (fun _ h _ => h))).1
     obtain ⟨p1, hp1⟩ : ∃ o, xs[j]? = some o := ⟨xs[j], List.getElem?_eq_getElem hjl⟩
     obtain ⟨b3, o3, c3', cs3, hv3, hc3, hm3, _, hr3, hl3, hcs3⟩ := sl_get hz1 (by omega) j (Asg.d p1) (by rw [List.getElem?_map, hp1]; rfl)
     simp only [List.length_map, Value.slice.injEq] at hv3
     obtain ⟨rfl, _, rfl⟩ := hv3
     simp only [List.length_map, maxLen] at hc3 hm3
     have HB := Lib.hid (szA_step xs j n p1 hp1 hn)
     have hlp := lx p1 (List.mem_of_getElem? hp1)
     obtain ⟨an, aw⟩ := p1
     obtain ⟨u1, rfl, ha1⟩ := asg_rep.1 hr3
     have k31 := hcs3 0 _ rfl
     have k32 := hcs3 1 _ rfl
     simp only [Nat.add_zero, ← Nat.add_assoc] at k31 k32
     have hcall : ∀ m' : Nat, Calls Tryz.prog 30 #[u1, .int .i64 0] (W2.drewN m') fun e w' => e = .returned (.int .i64 (sizeW 41 aw)) ∧ ∃ n, w' = (W2.drewN m').drewN n :=
      fun m' => size_calls (W2.drewN m') S u1 aw hlp (ha1.stay ((Chg.refl (fun _ => False) _).drewN _) (fun _ _ e => e))
     obtain ⟨Q1, f1, q1, rfl⟩ := sl_formN ha1
     have r1 : IntKind.i64.wrap ((j : Int) + 1) = (j : Int) + 1 := IntWalk.i64_in _ (by omega)
     have hR0 : Hid (szA (wr64 (wr64 (n + ((bstr an).size : Nat)) + (sizeW 41 aw : Nat))) (xs.drop (j + 1)) = N1) := Lib.hid (by rw [bstr_size, ← HK.out, HB.out])
     clear hp1 hz1 hcs3 hr3 ha1 hX2 hl3 hn HB HK hlp
     generalize bstr an = ab at *
     generalize sizeW 41 aw = G at *
     go_wp2
     go_quiet ((go_at_call 30; exact (hcall _).quiet_of))
     go_wp2
     go_roundg (xs.length - (j + 1))
     case measure => omega
     case rel => exact ⟨j + 1, _, by omega, rfl, rfl, hC2.drewN _, hR0⟩
    ·have q3 : decide (n ≤ 3000) = false := by simpa using hn
     have hR0 : Hid (n = N1) := Lib.hid (by rw [← HK.out, szA_stop _ _ hn])
     clear hX2 hn
     go_wp2
     go_meet
     exact ⟨by rw [hR0.out], hC2⟩
   ·have hR0 : Hid (n = N1) := Lib.hid (by rw [← HK.out, List.drop_eq_nil_of_le (by omega)]; rfl)
    clear hX2
    go_wp2
    go_meet
    exact ⟨by rw [hR0.out], hC2⟩
 case rest =>
  obtain ⟨rfl, hC2⟩ := hcut
  clear hW1
  generalize wc = W2 at *
  go_upto_block 2 with fail
  go_cut [5] (fun v5 wx => v5 = .int .i64 N2 ∧ Chg (fun _ => False) W wx)
  case first =>
   go_wp2
   go_loopg [5, 7] rs.length (fun rk nv i wx => ∃ j : Nat, ∃ n : Int, j + rk = rs.length ∧ i = .int .i64 j ∧ nv = .int .i64 n ∧ Chg (fun _ => False) W wx ∧ Hid (szR n (rs.drop j) = N2))
   case atStart => exact ⟨0, N1, by omega, rfl, rfl, hC2, Lib.hid (by simpa using HN2.out)⟩
   case round =>
    clear hC2
    obtain ⟨j, n, hj, rfl, rfl, hC2, HK⟩ := hrel
    generalize wr = W3 at *
    have hX2 := row_chg HXR.out hC2 (fun e => e)
    have hcX := row_cells hX2
    by_cases hjl : j < rs.length
    ·by_cases hn : n ≤ 3000
     ·have q3 : decide (n ≤ 3000) = true := by simpa using hn
      have hz1 := (HX.out _ (HC0.out.trans hC2 (fun _ h _ => h))).2.1
      obtain ⟨p1, hp1⟩ : ∃ o, rs[j]? = some o := ⟨rs[j], List.getElem?_eq_getElem hjl⟩
      obtain ⟨b3, o3, c3', cs3, hv3, hc3, hm3, _, hr3, hl3, hcs3⟩ := sl_get hz1 (by omega) j (Rdr.d p1) (by rw [List.getElem?_map, hp1]; rfl)
      simp only [List.length_map, Value.slice.injEq] at hv3
      obtain ⟨rfl, _, rfl⟩ := hv3
      simp only [List.length_map, maxLen] at hc3 hm3
      have HB := Lib.hid (szR_step rs j n p1 hp1 hn)
      have hlp := lr p1 (List.mem_of_getElem? hp1)
      obtain ⟨fd, an, aw⟩ := p1
      obtain ⟨u1, rfl, ha1⟩ := rdr_rep.1 hr3
      have k32 := hcs3 1 _ rfl
      have k33 := hcs3 2 _ rfl
      simp only [Nat.add_zero, ← Nat.add_assoc] at k32 k33
      have hcall : ∀ m' : Nat, Calls Tryz.prog 30 #[u1, .int .i64 0] (W3.drewN m') fun e w' => e = .returned (.int .i64 (sizeW 41 aw)) ∧ ∃ n, w' = (W3.drewN m').drewN n :=
       fun m' => size_calls (W3.drewN m') S u1 aw hlp (ha1.stay ((Chg.refl (fun _ => False) _).drewN _) (fun _ _ e => e))
      obtain ⟨Q1, f1, q1, rfl⟩ := sl_formN ha1
      have r1 : IntKind.i64.wrap ((j : Int) + 1) = (j : Int) + 1 := IntWalk.i64_in _ (by omega)
      have hR0 : Hid (szR (wr64 (wr64 (n + ((bstr an).size : Nat)) + (sizeW 41 aw : Nat))) (rs.drop (j + 1)) = N2) := Lib.hid (by rw [bstr_size, ← HK.out, HB.out])
      clear hp1 hz1 hcs3 hr3 ha1 hX2 hl3 hn HB HK hlp
      generalize bstr an = ab at *
      generalize sizeW 41 aw = G at *
      go_wp2
      go_quiet ((go_at_call 30; exact (hcall _).quiet_of))
      go_wp2
      go_roundg (rs.length - (j + 1))
      case measure => omega
      case rel => exact ⟨j + 1, _, by omega, rfl, rfl, hC2.drewN _, hR0⟩
     ·have q3 : decide (n ≤ 3000) = false := by simpa using hn
      have hR0 : Hid (n = N2) := Lib.hid (by rw [← HK.out, szR_stop _ _ hn])
      clear hX2 hn
      go_wp2
      go_meet
      exact ⟨by rw [hR0.out], hC2⟩
    ·have hR0 : Hid (n = N2) := Lib.hid (by rw [← HK.out, List.drop_eq_nil_of_le (by omega)]; rfl)
     clear hX2
     go_wp2
     go_meet
     exact ⟨by rw [hR0.out], hC2⟩
  case rest =>
   clear hC2
   obtain ⟨rfl, hC2⟩ := hcut
   generalize wc = W3 at *
   go_upto_block 4 with fail
   go_cut [5] (fun v5 wx => v5 = .int .i64 N3 ∧ Chg (fun _ => False) W wx)
   case first =>
    go_wp2
    go_loopg [5, 8] ca.length (fun rk nv i wx => ∃ j : Nat, ∃ n : Int, j + rk = ca.length ∧ i = .int .i64 j ∧ nv = .int .i64 n ∧ Chg (fun _ => False) W wx ∧ Hid (szCa (szLs f) n (ca.drop j) = N3))
    case atStart => exact ⟨0, N2, by omega, rfl, rfl, hC2, Lib.hid (by simpa using HN3.out)⟩
    case round =>
     clear hC2
     obtain ⟨j, n, hj, rfl, rfl, hC2, HK⟩ := hrel
     generalize wr = W4 at *
     have hX2 := row_chg HXR.out hC2 (fun e => e)
     have hcX := row_cells hX2
     by_cases hjl : j < ca.length
     ·by_cases hn : n ≤ 3000
      ·have q3 : decide (n ≤ 3000) = true := by simpa using hn
       have hz1 := (HX.out _ (HC0.out.trans hC2 (fun _ h _ => h))).2.2
       obtain ⟨p1, hp1⟩ : ∃ o, ca[j]? = some o := ⟨ca[j], List.getElem?_eq_getElem hjl⟩
       obtain ⟨b3, o3, c3', cs3, hv3, hc3, hm3, _, hr3, hl3, hcs3⟩ := sl_get hz1 (by omega) j (Cas.d p1) (by rw [List.getElem?_map, hp1]; rfl)
       simp only [List.length_map, Value.slice.injEq] at hv3
       obtain ⟨rfl, _, rfl⟩ := hv3
       simp only [List.length_map, maxLen] at hc3 hm3
       have HB := Lib.hid (szCa_step (szLs f) ca j n p1 hp1 hn)
       have hlp := hcab p1 (List.mem_of_getElem? hp1)
       obtain ⟨pp, cb⟩ := p1
       rw [Cas.lim] at hlp
       obtain ⟨u1, v1, rfl, ha1, hb1⟩ := cas_rep.1 hr3
       have k31 := hcs3 0 _ rfl
       have k32 := hcs3 1 _ rfl
       simp only [Nat.add_zero, ← Nat.add_assoc] at k31 k32
       have hwords : ∀ w', w'.heap = W4.heap → Calls Tryz.prog 29 #[u1] w' fun e w'' => e = .returned (.int .i64 (szWords pp)) ∧ ∃ m, w'' = w'.drewN m :=
        fun w' hh => szwords_calls w' S _ pp hlp.1 (Rep.heap ha1 hh)
       have hlists : ∀ w', w'.heap = W4.heap → Calls Tryz.prog 7 #[v1, .int .i64 ((deep : Int) + 1)] w' fun e w'' => e = .returned (.int .i64 (szLs f cb)) ∧ Chg (fun _ => False) w' w'' :=
        fun w' hh => by rw [← hd3]; exact IH w' S _ cb (deep + 1) (by omega) hlp.2 (Rep.heap hb1 hh)
       obtain ⟨Q1, f1, q1, rfl⟩ := sl_formN ha1
       obtain ⟨Q2, f2, q2, rfl⟩ := sl_formN hb1
       have r1 : IntKind.i64.wrap ((j : Int) + 1) = (j : Int) + 1 := IntWalk.i64_in _ (by omega)
       have hR0 : Hid (szCa (szLs f) (wr64 (wr64 (n + szWords pp) + szLs f cb)) (ca.drop (j + 1)) = N3) := Lib.hid (by rw [← HK.out, HB.out]; rfl)
       have t1 := hcX 7
       simp only [List.getElem?_toArray, List.getElem?_cons_succ, List.getElem?_cons_zero] at t1
       clear hp1 hz1 hcs3 hr3 ha1 hb1 hX2 hl3 hn HB HK hlp
       generalize szWords pp = G1 at *
       generalize szLs f cb = G2 at *
       have HM := Lib.hid hC2; clear hC2
       go_wp2
       clear hcX
       go_region_held3 (fun w' => w'.cell? ⟨X, 7, none⟩ = some (.slice (some ⟨b3, o3, none⟩) ca.length c6) ∧ w'.cell? ⟨b3, o3 + j * 2, none⟩ = some (.slice Q1 f1 q1) ∧ w'.cell? ⟨b3, o3 + j * 2 + 1, none⟩ = some (.slice Q2 f2 q2)) (first | go_keep | exact ⟨HK2.out.1, HK2.out.2.1, HK2.out.2.2⟩) (first
        | (go_at_call 29; refine Calls.mono (hwords _ (by rfl)) ?_; rintro e w' ⟨rfl, mm, rfl⟩)
        | (go_at_call 7; refine Calls.mono (hlists _ (by rfl)) ?_; rintro e w5 ⟨rfl, hC5⟩; have HK2 := Lib.hid (⟨hC5.cell t1 (fun e => e), hC5.cell k31 (fun e => e), hC5.cell k32 (fun e => e)⟩ : _ ∧ _ ∧ _)))
       go_wp2
       go_roundg (ca.length - (j + 1))
       case measure => omega
       case rel => exact ⟨j + 1, wr64 (wr64 (n + G1) + G2), by omega, rfl, by simp only [wr64, IntWalk.i64_left], HM.out.trans (((Chg.refl (fun _ => False) W4).drewN _).trans hC5 (fun _ h _ => h)) (fun _ h _ => h), hR0⟩
      ·have q3 : decide (n ≤ 3000) = false := by simpa using hn
       have hR0 : Hid (n = N3) := Lib.hid (by rw [← HK.out, szCa_stop _ _ _ hn])
       clear hX2 hn
       go_wp2
       go_meet
       exact ⟨by rw [hR0.out], hC2⟩
     ·have hR0 : Hid (n = N3) := Lib.hid (by rw [← HK.out, List.drop_eq_nil_of_le (by omega)]; rfl)
      clear hX2
      go_wp2
      go_meet
      exact ⟨by rw [hR0.out], hC2⟩
   case rest =>
    clear hC2
    obtain ⟨rfl, hC2⟩ := hcut
    generalize wc = W4 at *
    clear HX hcab HN0 HN1 HN2 HN3
    unfold szC1 at HR
    have hX2 := row_chg HXR.out hC2 (fun e => e)
    have hcX := row_cells hX2
    have hC3 := HC0.out.trans hC2 (fun _ h _ => h)
    by_cases hg : 3000 < N3
    ·have q3 : decide (3000 < N3) = true := by simpa using hg
     have hR0 : Hid (N3 = R) := Lib.hid (by rw [← HR.out, if_pos hg])
     clear hg hX2
     go_wp2
     go_ret
     exact ⟨by rw [hR0.out]; try rfl, hC3⟩
    ·have q3 : decide (3000 < N3) = false := by simpa using hg
     have hR0 : Hid (wr64 (wr64 (wr64 (N3 + szLs f co) + szLs f bo) + szLs f ot) = R) := Lib.hid (by rw [← HR.out, if_neg hg])
     have t4 := hcX 4
     have t5 := hcX 5
     have t6 := hcX 6
     simp only [List.getElem?_toArray, List.getElem?_cons_succ, List.getElem?_cons_zero] at t4 t5 t6
     generalize szLs f co = G1 at *
     generalize szLs f bo = G2 at *
     generalize szLs f ot = G3 at *
     clear hg hX2 HR hC2
     go_wp2
     clear hcX
     go_region_held3 (fun w' => w'.cell? ⟨X, 4, none⟩ = some (.slice A3 l3 c3) ∧ w'.cell? ⟨X, 5, none⟩ = some (.slice A4 l4 c4) ∧ w'.cell? ⟨X, 6, none⟩ = some (.slice A5 l5 c5)) (first | go_keep | exact ⟨HK4.out.1, HK4.out.2.1, HK4.out.2.2⟩ | exact ⟨HK3.out.1, HK3.out.2.1, HK3.out.2.2⟩ | exact ⟨HK2.out.1, HK2.out.2.1, HK2.out.2.2⟩) (first
      | (go_at_call 7; have hx := HOt.out _ hC8; refine Calls.mono hx ?_; clear hx; rintro e w7 ⟨rfl, hC9⟩; have hC10 := hC8.trans hC9 (fun _ h _ => h); have HK4 := Lib.hid (⟨hC9.cell HK3.out.1 (fun e => e), hC9.cell HK3.out.2.1 (fun e => e), hC9.cell HK3.out.2.2 (fun e => e)⟩ : _ ∧ _ ∧ _))
      | (go_at_call 7; have hx := HBo.out _ hC6; refine Calls.mono hx ?_; clear hx; rintro e w6 ⟨rfl, hC7⟩; have hC8 := hC6.trans hC7 (fun _ h _ => h); have HK3 := Lib.hid (⟨hC7.cell HK2.out.1 (fun e => e), hC7.cell HK2.out.2.1 (fun e => e), hC7.cell HK2.out.2.2 (fun e => e)⟩ : _ ∧ _ ∧ _))
      | (go_at_call 7; have hx := HCo.out _ hC3.drew; refine Calls.mono hx ?_; clear hx; rintro e w5 ⟨rfl, hC5⟩; have hC6 := hC3.drew.trans hC5 (fun _ h _ => h); have HK2 := Lib.hid (⟨hC5.cell t4 (fun e => e), hC5.cell t5 (fun e => e), hC5.cell t6 (fun e => e)⟩ : _ ∧ _ ∧ _)))
     go_wp2
     go_ret
     exact ⟨by rw [← hR0.out]; first | rfl | (simp only [wr64, IntWalk.i64_left]; done) | (simp only [wr64, IntWalk.i64_left]; rfl), hC10⟩
set_option maxRecDepth 100000 in
set_option maxHeartbeats 8000000 in
theorem szls_step (f : Nat) (IH : SzCmd f) : SzSaid (f + 1) := by
 intro w S v ls deep hd hlim h
 rw [Lst.ds_map] at h
 obtain ⟨A, c, rfl⟩ := sl_form2 h
 rw [List.length_map] at h ⊢
 have hx := rep_max h
 rw [List.length_map] at hx
 have hmem := limLs_mem hlim
 clear hlim
 have q1 : decide ((40 : Int) < (deep : Int)) = false := by simp; omega
 generalize hR : szLs (f + 1) ls = R
 rw [szLs] at hR
 have HR := Lib.hid hR; clear hR
 go_enter Tryz.func7, Tryz.ntmps7
 go_wp2
 clear q1
 go_loopg [5, 6] ls.length (fun rk nv i wr => ∃ k : Nat, ∃ n : Int, k + rk = ls.length ∧ i = .int .i64 k ∧ nv = .int .i64 n ∧ Chg (fun _ => False) w wr ∧ Hid (szL (szLs f) n (ls.drop k) = R))
 case atStart => exact ⟨0, ls.length, by omega, rfl, rfl, Chg.refl _ _, Lib.hid (by simpa using HR.out)⟩
 case round =>
  clear HR
  obtain ⟨k, n, hk, rfl, rfl, hC, HK⟩ := hrel
  generalize wr = W0 at *
  have h1' := h.stay hC (fun _ _ e => e)
  clear h
  by_cases hlt : k < ls.length
  rotate_left
  ·have hR0 : Hid (n = R) := Lib.hid (by rw [← HK.out, List.drop_eq_nil_of_le (by omega)]; rfl)
   clear h1'
   go_wp2
   go_ret
   exact ⟨by rw [hR0.out]; try rfl, hC⟩
  by_cases hn : n ≤ 3000
  rotate_left
  ·have q3 : decide (n ≤ 3000) = false := by simpa using hn
   have hR0 : Hid (n = R) := Lib.hid (by rw [← HK.out, szL_stop _ _ _ hn])
   clear h1' hn
   go_wp2
   go_ret
   exact ⟨by rw [hR0.out]; try rfl, hC⟩
  have q3 : decide (n ≤ 3000) = true := by simpa using hn
  obtain ⟨p1, hp1⟩ : ∃ p, ls[k]? = some p := ⟨ls[k], List.getElem?_eq_getElem hlt⟩
  have HB := Lib.hid (szL_step (szLs f) ls k n p1 hp1 hn)
  have hlp := hmem p1 (List.mem_of_getElem? hp1)
  obtain ⟨b1, o1, c1', cs1, hv1, hc1, hm1, hb1, hr1, hl1, hcs1⟩ := sl_get h1' (by omega) k p1.d (by rw [List.getElem?_map, hp1]; rfl)
  simp only [List.length_map, Value.slice.injEq] at hv1
  obtain ⟨rfl, _, rfl⟩ := hv1
  have r0 : IntKind.i64.wrap ((k : Int) + 1) = (k : Int) + 1 := IntWalk.i64_in _ (by omega)
  obtain ⟨ps, os⟩ := p1
  obtain ⟨x1, y1, rfl, hx1, hy1⟩ := lst_rep.1 hr1
  obtain ⟨A1, n1, rfl⟩ := sl_form hx1
  obtain ⟨E1, m1, rfl⟩ := sl_form hy1
  simp only [Pip.ds_map, List.length_map] at hx1 hy1 hcs1
  have g11 := hcs1 0 _ rfl
  have g12 := hcs1 1 _ rfl
  simp only [Nat.add_zero, ← Nat.add_assoc] at g11 g12
  rw [Lst.lim] at hlp
  have hpm := limPips_mem hlp
  have HG := Lib.hid (And.intro g11 g12)
  have HR0 := Lib.hid r0
  have HX1 := Lib.hid hx1
  have HY1 := Lib.hid hy1
  have HC := Lib.hid hC
  generalize hn1 : szO (wr64 (wr64 (n + (os.length : Nat)) + (ps.length : Nat))) os = N1
  generalize hn2 : szP (szLs f) N1 ps = N2
  have HN1 := Lib.hid hn1
  have HN2 := Lib.hid hn2
  have HK2 : Hid (szL (szLs f) N2 (ls.drop (k + 1)) = R) := Lib.hid (by rw [← HK.out, HB.out, ← hn2, ← hn1]; rfl)
  clear hp1 h1' hcs1 hr1 hl1 hx1 hy1 hn hlp HK HB hn1 hn2
  go_wp2
  go_quiet (fail)
  have hC1 : Chg (fun _ => False) W0 (W0.drewN nq) := (Chg.refl _ W0).drewN nq
  generalize W0.drewN nq = W1 at *
  clear q3 g11 g12 r0 hC
  go_upto_block 2 with fail
  go_cut [5] (fun v5 wx => v5 = .int .i64 N1 ∧ Chg (fun _ => False) W0 wx)
  case first =>
   go_wp2
   go_loopg [5, 7] os.length (fun rk nv i wx => ∃ j : Nat, ∃ n : Int, j + rk = os.length ∧ i = .int .i64 j ∧ nv = .int .i64 n ∧ Chg (fun _ => False) W0 wx ∧ Hid (szO n (os.drop j) = N1))
   case atStart => exact ⟨0, wr64 (wr64 (n + (os.length : Nat)) + (ps.length : Nat)), by omega, rfl, by first | rfl | simp only [wr64, IntWalk.i64_left], hC1, Lib.hid (by simpa using HN1.out)⟩
   case round =>
    clear hC1
    obtain ⟨j, n, hj, rfl, rfl, hC1, HJ⟩ := hrel
    generalize wr = W2 at *
    have k11 := hC1.cell HG.out.1 (fun e => e)
    have k12 := hC1.cell HG.out.2 (fun e => e)
    have hz1 := HY1.out.stay hC1 (fun _ _ e => e)
    by_cases hjl : j < os.length
    ·by_cases hn : n ≤ 3000
     ·have q3 : decide (n ≤ 3000) = true := by simpa using hn
      obtain ⟨o1', ho1⟩ : ∃ o, os[j]? = some o := ⟨os[j], List.getElem?_eq_getElem hjl⟩
      have HD := Lib.hid (szO_step os j n o1' ho1 hn)
      obtain ⟨b3, o3, c3', cs3, hv3, hc3, hm3, _, hr3, hl3, hcs3⟩ := sl_get hz1 (by omega) j (bytesD o1') (by rw [List.getElem?_map, ho1]; rfl)
      simp only [List.length_map, Value.slice.injEq] at hv3
      obtain ⟨rfl, _, rfl⟩ := hv3
      simp only [List.length_map, maxLen] at hc3 hm3
      have e3 : cs3 = [.string (bstr o1')] := hr3
      subst e3
      have k3 := hcs3 0 _ rfl
      simp only [Nat.mul_one, Nat.add_zero] at k3
      have r1 : IntKind.i64.wrap ((j : Int) + 1) = (j : Int) + 1 := IntWalk.i64_in _ (by omega)
      have hR0 : Hid (szO (wr64 (n + ((bstr o1').size : Nat))) (os.drop (j + 1)) = N1) := Lib.hid (by rw [bstr_size, ← HJ.out, HD.out])
      clear ho1 hz1 hcs3 hr3 hl3 hn HJ HD
      generalize bstr o1' = ob at *
      go_wp2
      go_roundg (os.length - (j + 1))
      case measure => omega
      case rel => exact ⟨j + 1, _, by omega, rfl, rfl, hC1, hR0⟩
     ·have q3 : decide (n ≤ 3000) = false := by simpa using hn
      have hR0 : Hid (n = N1) := Lib.hid (by rw [← HJ.out, szO_stop _ _ hn])
      clear hz1 hn
      go_wp2
      go_meet
      exact ⟨by rw [hR0.out], hC1⟩
    ·have hR0 : Hid (n = N1) := Lib.hid (by rw [← HJ.out, List.drop_eq_nil_of_le (by omega)]; rfl)
     clear hz1
     go_wp2
     go_meet
     exact ⟨by rw [hR0.out], hC1⟩
  case rest =>
   clear hC1
   obtain ⟨rfl, hC1⟩ := hcut
   generalize wc = W2 at *
   have r0 := HR0.out
   go_wp2
   go_loopg [5, 8] ps.length (fun rk nv i wx => ∃ j : Nat, ∃ n : Int, j + rk = ps.length ∧ i = .int .i64 j ∧ nv = .int .i64 n ∧ Chg (fun _ => False) W0 wx ∧ Hid (szP (szLs f) n (ps.drop j) = N2))
   case atStart => exact ⟨0, N1, by omega, rfl, rfl, hC1, Lib.hid (by simpa using HN2.out)⟩
   case round =>
    clear hC1
    obtain ⟨q, n, hq, rfl, rfl, hC1, HQ⟩ := hrel
    generalize wr = W3 at *
    have k11 := hC1.cell HG.out.1 (fun e => e)
    have hz1 := HX1.out.stay hC1 (fun _ _ e => e)
    by_cases hql : q < ps.length
    ·by_cases hn : n ≤ 3000
     ·have q3 : decide (n ≤ 3000) = true := by simpa using hn
      obtain ⟨pp, hpp⟩ : ∃ o, ps[q]? = some o := ⟨ps[q], List.getElem?_eq_getElem hql⟩
      have HD := Lib.hid (szP_step (szLs f) ps q n pp hpp hn)
      have hlq := hpm pp (List.mem_of_getElem? hpp)
      obtain ⟨b3, o3, c3', cs3, hv3, hc3, hm3, _, hr3, hl3, hcs3⟩ := sl_get hz1 (by omega) q pp.d (by rw [List.getElem?_map, hpp]; rfl)
      simp only [List.length_map, Value.slice.injEq] at hv3
      obtain ⟨rfl, _, rfl⟩ := hv3
      simp only [List.length_map, maxLen] at hc3 hm3
      obtain ⟨ng, cs⟩ := pp
      rw [Pip.lim] at hlq
      have hcm := limCmds_mem hlq
      obtain ⟨x3, rfl, hx3⟩ := pip_rep.1 hr3
      obtain ⟨A3, n3, rfl⟩ := sl_form hx3
      simp only [Cmd.ds_map, List.length_map] at hx3 hcs3
      have k32 := hcs3 1 _ rfl
      simp only [Nat.add_zero, ← Nat.add_assoc] at k32
      have r1 : IntKind.i64.wrap ((q : Int) + 1) = (q : Int) + 1 := IntWalk.i64_in _ (by omega)
      generalize hn3 : szCs (szLs f) (wr64 (n + (cs.length : Nat))) cs = N3
      have hR0 : Hid (szP (szLs f) N3 (ps.drop (q + 1)) = N2) := Lib.hid (by rw [← HQ.out, HD.out, ← hn3]; rfl)
      have HN3 := Lib.hid hn3
      have HX3 := Lib.hid hx3
      have HK32 := Lib.hid (And.intro k11 k32)
      have HR1 := Lib.hid r1
      clear hpp hz1 hcs3 hr3 hl3 hn HQ HD hx3 hlq hn3
      have hq0 := hq
      go_wp2
      clear k11 k32 q3 r1
      go_loopg [5, 9] cs.length (fun rk nv i wx => ∃ j : Nat, ∃ n : Int, j + rk = cs.length ∧ i = .int .i64 j ∧ nv = .int .i64 n ∧ Chg (fun _ => False) W3 wx ∧ Hid (szCs (szLs f) n (cs.drop j) = N3))
      case atStart => exact ⟨0, wr64 (n + (cs.length : Nat)), by omega, rfl, by first | rfl | simp only [wr64, IntWalk.i64_left], Chg.refl _ _, Lib.hid (by simpa using HN3.out)⟩
      case round =>
       obtain ⟨j, n, hj, rfl, rfl, hC4, HJ⟩ := hrel
       generalize wr = W4 at *
       have j11 := hC4.cell HK32.out.1 (fun e => e)
       have j32 := hC4.cell HK32.out.2 (fun e => e)
       have hz1 := HX3.out.stay hC4 (fun _ _ e => e)
       by_cases hjl : j < cs.length
       ·by_cases hn : n ≤ 3000
        ·have q3 : decide (n ≤ 3000) = true := by simpa using hn
         obtain ⟨c1, hc1⟩ : ∃ o, cs[j]? = some o := ⟨cs[j], List.getElem?_eq_getElem hjl⟩
         have HD := Lib.hid (szCs_step (szLs f) cs j n c1 hc1 hn)
         have hcl := hcm c1 (List.mem_of_getElem? hc1)
         obtain ⟨b5, o5, c5', cs5, hv5, hc5, hm5, _, hr5, hl5, hcs5⟩ := sl_get hz1 (by omega) j c1.d (by rw [List.getElem?_map, hc1]; rfl)
         simp only [List.length_map, Value.slice.injEq] at hv5
         obtain ⟨rfl, _, rfl⟩ := hv5
         simp only [List.length_map, maxLen] at hc5 hm5
         have HCM : Hid (Calls Tryz.prog 15 #[.agg cs5.toArray, .int .i64 deep] W4 fun e w'' => e = .returned (.int .i64 (szC (szLs f) c1)) ∧ Chg (fun _ => False) W4 w'') :=
          Lib.hid (IH W4 S cs5 c1 deep (by omega) hcl hr5)
         obtain ⟨xk, xs, f1, f2, f3, f4, f5, f6, f7, f8, f9, f10, f11, f12, f13, f14, f15, f16, f17, f18, f19, f20, f21, rfl⟩ := cmd_formF hr5
         have k50 := hcs5 0 _ rfl
         have k51 := hcs5 1 _ rfl
         have k52 := hcs5 2 _ rfl
         have k53 := hcs5 3 _ rfl
         have k54 := hcs5 4 _ rfl
         have k55 := hcs5 5 _ rfl
         have k56 := hcs5 6 _ rfl
         have k57 := hcs5 7 _ rfl
         have k58 := hcs5 8 _ rfl
         simp only [Nat.add_zero, ← Nat.add_assoc] at k50 k51 k52 k53 k54 k55 k56 k57 k58
         have r2 : IntKind.i64.wrap ((j : Int) + 1) = (j : Int) + 1 := IntWalk.i64_in _ (by omega)
         have hR1 : Hid (szCs (szLs f) (wr64 (n + szC (szLs f) c1)) (cs.drop (j + 1)) = N3) := Lib.hid (by rw [← HJ.out, HD.out])
         clear hc1 hz1 hcs5 hr5 hl5 hn HJ HD hcl
         generalize szC (szLs f) c1 = G at *
         go_wp2_with fail
         refine Calls.mono HCM.out ?_
         rintro e W5 ⟨rfl, hC7⟩
         clear k50 k51 k52 k53 k54 k55 k56 k57 k58 HCM j11 j32 q3
         go_wp2
         go_roundg (cs.length - (j + 1))
         case measure => omega
         case rel => exact ⟨j + 1, _, by omega, rfl, rfl, hC4.trans hC7 (fun _ h _ => h), hR1⟩
        ·have q3 : decide (n ≤ 3000) = false := by simpa using hn
         have hS0 : Hid (n = N3) := Lib.hid (by rw [← HJ.out, szCs_stop _ _ _ hn])
         clear hz1 hn
         have r1 := HR1.out
         go_wp2
         go_roundg (ps.length - (q + 1))
         case measure => omega
         case rel => exact ⟨q + 1, n, by omega, rfl, rfl, hC1.trans hC4 (fun _ h _ => h), Lib.hid (by rw [hS0.out]; exact hR0.out)⟩
       ·have hS0 : Hid (n = N3) := Lib.hid (by rw [← HJ.out, List.drop_eq_nil_of_le (by omega)]; rfl)
        clear hz1
        have r1 := HR1.out
        go_wp2
        go_roundg (ps.length - (q + 1))
        case measure => omega
        case rel => exact ⟨q + 1, n, by omega, rfl, rfl, hC1.trans hC4 (fun _ h _ => h), Lib.hid (by rw [hS0.out]; exact hR0.out)⟩
     ·have q3 : decide (n ≤ 3000) = false := by simpa using hn
      have hR0 : Hid (n = N2) := Lib.hid (by rw [← HQ.out, szP_stop _ _ _ hn])
      clear hz1 hn
      go_wp2
      go_roundg (ls.length - (k + 1))
      case measure => omega
      case rel => exact ⟨k + 1, n, by omega, rfl, rfl, HC.out.trans hC1 (fun _ h _ => h), Lib.hid (by rw [hR0.out]; exact HK2.out)⟩
    ·have hR0 : Hid (n = N2) := Lib.hid (by rw [← HQ.out, List.drop_eq_nil_of_le (by omega)]; rfl)
     clear hz1
     go_wp2
     go_roundg (ls.length - (k + 1))
     case measure => omega
     case rel => exact ⟨k + 1, n, by omega, rfl, rfl, HC.out.trans hC1 (fun _ h _ => h), Lib.hid (by rw [hR0.out]; exact HK2.out)⟩
set_option maxRecDepth 100000 in
theorem szls_base : SzSaid 0 := by
 intro w S v ls deep hd hl h
 obtain ⟨A, n, c, rfl⟩ := sl_formN h
 obtain rfl : deep = 41 := by omega
 rw [szLs]
 go_enter Tryz.func7, Tryz.ntmps7
 go_wp2
 go_ret
 exact ⟨rfl, Chg.refl _ _⟩
theorem szls_all : ∀ f, SzSaid f
 | 0 => szls_base
 | f + 1 => szls_step f (szcmd_step f (szls_all f))
theorem szls_calls (w : World) (S : Nat → Prop) (v : Value) (ls : List Lst) (hl : limLs ls) (h : Rep w S (.sl 39 2 (Lst.ds ls)) [v]) :
  Calls Tryz.prog 7 #[v, .int .i64 0] w fun e w' => e = .returned (.int .i64 (szLs 41 ls)) ∧ Chg (fun _ => False) w w' :=
 szls_all 41 w S v ls 0 (by omega) hl h
set_option maxRecDepth 100000 in
set_option maxHeartbeats 4000000 in
theorem printSames_calls (w : World) (S1 S2 : Nat → Prop) (v1 v2 : Value) (a b : List Lst) (hl1 : limLs a) (hl2 : limLs b) (hm : HM w)
  (h1 : Rep w S1 (.sl 39 2 (Lst.ds a)) [v1]) (h2 : Rep w S2 (.sl 39 2 (Lst.ds b)) [v2]) :
  Calls Tryz.prog 6 #[v1, v2] w fun e w' => e = .returned (.bool true) ∧ Chg (fun _ => False) w w' := by
 have HAW : Hid (∀ w', Chg (fun _ => False) w w' → Calls Tryz.prog 8 #[] w' fun e w'' => e = .returned (.bool true) ∧ Chg (fun _ => False) w' w'') := Lib.hid (fun w' hc => pawake_calls w' (hm.stay hc (fun e => e)))
 have hS1 := Lib.hid (szls_calls w S1 v1 a hl1 h1)
 have hS2 : Hid (∀ w', Chg (fun _ => False) w w' → Calls Tryz.prog 7 #[v2, .int .i64 0] w' fun e w'' => e = .returned (.int .i64 (szLs 41 b)) ∧ Chg (fun _ => False) w' w'') := Lib.hid (fun w' hc => szls_calls w' S2 v2 b hl2 (h2.stay hc (fun _ _ e => e)))
 have HP : Hid (∀ w', Chg (fun _ => False) w w' → Calls Tryz.prog 14 #[v1, v2] w' fun e w'' => e = .returned (.bool (sameLs a b)) ∧ Chg (fun _ => False) w' w'') :=
  Lib.hid (fun w' hc => psame_calls w' S1 S2 _ _ a b (h1.stay hc (fun _ _ e => e)) (h2.stay hc (fun _ _ e => e)))
 have HR : Hid (∀ w', Chg (fun _ => False) w w' → Calls Tryz.prog 11 #[v1, v2] w' fun e w'' => e = .returned (.bool (sameLs a b)) ∧ Chg (fun _ => False) w' w'') :=
  Lib.hid (fun w' hc => rsame_calls w' S1 S2 _ _ a b (h1.stay hc (fun _ _ e => e)) (h2.stay hc (fun _ _ e => e)))
 have HP11 : Hid (∀ w', Chg (fun _ => False) w w' → Calls Tryz.prog 14 #[v1, v1] w' fun e w'' => e = .returned (.bool true) ∧ Chg (fun _ => False) w' w'') :=
  Lib.hid (fun w' hc => by rw [← sameLs_refl a]; exact psame_calls w' S1 S1 _ _ a a (h1.stay hc (fun _ _ e => e)) (h1.stay hc (fun _ _ e => e)))
 have HP21 : Hid (∀ w', Chg (fun _ => False) w w' → Calls Tryz.prog 14 #[v2, v1] w' fun e w'' => e = .returned (.bool (sameLs a b)) ∧ Chg (fun _ => False) w' w'') :=
  Lib.hid (fun w' hc => by rw [sameLs_comm]; exact psame_calls w' S2 S1 _ _ b a (h2.stay hc (fun _ _ e => e)) (h1.stay hc (fun _ _ e => e)))
 obtain ⟨A1, l1, c1, rfl⟩ := sl_formN h1
 obtain ⟨A2, l2, c2, rfl⟩ := sl_formN h2
 generalize szLs 41 a = n1 at *
 generalize szLs 41 b = n2 at *
 generalize sameLs a b = bq at *
 clear h1 h2 hl1 hl2 hm
 by_cases g1 : 1500 < n1
 ·have q1 : decide ((1500 : Int) < n1) = true := by simpa using g1
  clear HP HR HP11 HP21 hS2
  go_enter Tryz.func6, Tryz.ntmps6
  go_wp2_with fail
  refine Calls.mono hS1.out ?_
  rintro e w1 ⟨rfl, hC1⟩
  clear hS1
  go_wp2_with fail
  refine Calls.mono (HAW.out _ hC1) ?_
  rintro e w9 ⟨rfl, hC9⟩
  go_wp2
  go_ret
  exact ⟨rfl, (hC1).trans hC9 (fun _ h _ => h)⟩
 ·have q1 : decide ((1500 : Int) < n1) = false := by simpa using g1
  by_cases g2 : 1500 < n2
  ·have q2 : decide ((1500 : Int) < n2) = true := by simpa using g2
   clear HP HR HP11 HP21
   go_enter Tryz.func6, Tryz.ntmps6
   go_wp2_with fail
   refine Calls.mono hS1.out ?_
   rintro e w1 ⟨rfl, hC1⟩
   clear hS1
   go_wp2_with fail
   refine Calls.mono (hS2.out _ hC1) ?_
   rintro e w2 ⟨rfl, hC⟩
   have hC2 := hC1.trans hC (fun _ h _ => h)
   clear hC hC1 hS2
   go_wp2_with fail
   refine Calls.mono (HAW.out _ hC2) ?_
   rintro e w9 ⟨rfl, hC9⟩
   go_wp2
   go_ret
   exact ⟨rfl, (hC2).trans hC9 (fun _ h _ => h)⟩
  ·have q2 : decide ((1500 : Int) < n2) = false := by simpa using g2
   go_enter Tryz.func6, Tryz.ntmps6
   go_wp2_with fail
   refine Calls.mono hS1.out ?_
   rintro e w1 ⟨rfl, hC1⟩
   clear hS1
   go_wp2_with fail
   refine Calls.mono (hS2.out _ hC1) ?_
   rintro e w2 ⟨rfl, hC⟩
   have hC2 := hC1.trans hC (fun _ h _ => h)
   clear hC hC1 hS2
   clear g1 g2
   go_wp2_with fail
   refine Calls.mono (HP.out _ hC2) ?_
   rintro e w3 ⟨rfl, hC⟩
   have hC3 := hC2.trans hC (fun _ h _ => h)
   clear hC hC2
   go_wp2_with fail
   refine Calls.mono (HR.out _ hC3) ?_
   rintro e w4 ⟨rfl, hC⟩
   have hC4 := hC3.trans hC (fun _ h _ => h)
   clear hC hC3 HR
   go_wp2_with fail
   refine Calls.mono (HP11.out _ hC4) ?_
   rintro e w5 ⟨rfl, hC⟩
   have hC5 := hC4.trans hC (fun _ h _ => h)
   clear hC hC4 HP11
   go_wp2_with fail
   refine Calls.mono (HP21.out _ hC5) ?_
   rintro e w6 ⟨rfl, hC⟩
   have hC6 := hC5.trans hC (fun _ h _ => h)
   clear hC hC5 HP21
   go_wp2_with fail
   refine Calls.mono (HP.out _ hC6) ?_
   rintro e w7 ⟨rfl, hC⟩
   have hC7 := hC6.trans hC (fun _ h _ => h)
   clear hC hC6 HP
   go_wp2_with fail
   refine Calls.mono (HAW.out _ hC7) ?_
   rintro e w9 ⟨rfl, hC9⟩
   go_wp2
   go_ret
   exact ⟨rfl, (hC7).trans hC9 (fun _ h _ => h)⟩
end Go.Proofs.YtdfnkmiabmjolaaGreatDoor
