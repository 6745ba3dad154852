/- Walks of package word: Scan, and how it catches its faults. And what stands with it. -/
import Derived.Test.YtdfnkmiabmjolaaGreatDoorJ7
import Derived.Defers
import Derived.Recover
set_option linter.unusedVariables false
set_option linter.unusedSimpArgs false
namespace Go.Proofs.YtdfnkmiabmjolaaGreatDoor
open Go.RowKit
theorem catch_idle (p q r : Addr) (w : World) :
  CallsD Tryz.prog 96 #[.pointer (some p), .pointer (some q), .pointer (some r)] .returning w fun e u' w' => e = .returned (.tuple #[]) ∧ u' = .returning ∧ w' = w := by
 refine callsD_of_wpS Tryz.func96 rfl fun c₀ cs hu => ?_
 apply wpS_seq
 apply wpS_region
 simp [wpOpsS, go_sem, recoverD, hu, Tryz.ntmps96, Exit.thenS]
 refine wpS_of_wp ?_
 go_wp2
 cases c₀
 simp_all [bodyPostS, results, Tryz.results96]
theorem assert_fault (v : Value) (w : World) : (Instr.typeAssert (.iface 134 v) 20 134 true).run Tryz.prog w = .ok (.tuple #[v, .bool true]) w := by kernel_rfl
set_option maxRecDepth 100000 in
set_option maxHeartbeats 2000000 in
theorem catch_fault (h : Nat) (vp vq vr : Value) (k c : Int) (w : World) (t1 t2 t3 : TypeId) (hp : w.heap[h]? = some (.cells #[vp] t1)) (hq : w.heap[h + 1]? = some (.cells #[vq] t2)) (hr : w.heap[h + 2]? = some (.cells #[vr] t3)) :
  CallsD Tryz.prog 96 #[.pointer (some ⟨h, 0, none⟩), .pointer (some ⟨h + 1, 0, none⟩), .pointer (some ⟨h + 2, 0, none⟩)] (.panicking [{ v := .iface 134 (.agg #[.int .i64 k, .int .i64 c]), recovered := false }]) w fun e u' w' =>
   e = .returned (.tuple #[]) ∧ u' = .panicking [{ v := .iface 134 (.agg #[.int .i64 k, .int .i64 c]), recovered := true }] ∧
   w'.cell? ⟨h, 0, none⟩ = some (.slice none 0 0) ∧ w'.cell? ⟨h + 1, 0, none⟩ = some (.int .i64 k) ∧ w'.cell? ⟨h + 2, 0, none⟩ = some (.int .i64 c) ∧ Chg (fun j => h ≤ j ∧ j ≤ h + 2) w w' := by
 have hh := row_lt hr
 refine callsD_of_wpS Tryz.func96 rfl fun c₀ cs hu => ?_
 apply wpS_seq
 apply wpS_region
 simp [wpOpsS, go_sem, recoverD, hu, Tryz.ntmps96, Exit.thenS]
 refine wpS_of_wp ?_
 change Code.wp _ _ _ { tmps := #[.pointer (some ⟨h, 0, none⟩), .pointer (some ⟨h + 1, 0, none⟩), .pointer (some ⟨h + 2, 0, none⟩), undef, undef, undef, .iface 134 (.agg #[.int .i64 k, .int .i64 c]), undef, undef, undef, undef, undef, undef, undef, undef, undef], defers := [] } w
 have has := assert_fault (.agg #[.int .i64 k, .int .i64 c])
 have n1 : ¬ w.heap.size = h := by omega
 have n2 : ¬ w.heap.size = h + 1 := by omega
 have n3 : ¬ w.heap.size = h + 2 := by omega
 have n4 : ¬ h = w.heap.size := by omega
 have n5 : ¬ h + 1 = w.heap.size := by omega
 have n6 : ¬ h + 2 = w.heap.size := by omega
 have hA := row_new w (.cells #[.int .i64 k, .int .i64 c] 134)
 have hp' := row_alloc hp (.cells #[.int .i64 k, .int .i64 c] 134)
 have hq' := row_alloc hq (.cells #[.int .i64 k, .int .i64 c] 134)
 have hr' := row_alloc hr (.cells #[.int .i64 k, .int .i64 c] 134)
 have hC : Chg (fun j => h ≤ j ∧ j ≤ h + 2) w (w.alloc (.cells #[.int .i64 k, .int .i64 c] 134)) := (Chg.refl _ _).alloc _
 go_wp2
 revert hA hp' hq' hr' hC
 generalize w.alloc (.cells #[.int .i64 k, .int .i64 c] 134) = wa
 intro hA hp' hq' hr' hC
 clear hp hq hr
 have a0 := row_cells hA
 have p0 := row_cells hp'
 have q0 := row_cells hq'
 have r0 := row_cells hr'
 have p1 := row_free hp'
 have q1 := row_free hq'
 have r1 := row_free hr'
 go_region_held3 (fun w' => w'.cell? ⟨w.heap.size, 0, none⟩ = some (.int .i64 k) ∧ w'.cell? ⟨w.heap.size, 1, none⟩ = some (.int .i64 c)) (go_keep) (fail)
 have n7 : ¬ h = h + 1 := by omega
 have n8 : ¬ h = h + 2 := by omega
 have g0 := row_far (row_far (row_set hp' 0 (.slice none 0 0)) (p := ⟨h + 1, 0, none⟩) n7 (.int .i64 k)) (p := ⟨h + 2, 0, none⟩) n8 (.int .i64 c)
 have g1 := row_far (row_set (row_far hq' (p := ⟨h, 0, none⟩) (by simp) (.slice none 0 0)) 0 (.int .i64 k)) (p := ⟨h + 2, 0, none⟩) (by simp) (.int .i64 c)
 have g2 := row_set (row_far (row_far hr' (p := ⟨h, 0, none⟩) (by simp) (.slice none 0 0)) (p := ⟨h + 1, 0, none⟩) (by simp) (.int .i64 k)) 0 (.int .i64 c)
 have hC3 := (((hC.setCell (p := ⟨h, 0, none⟩) (fun _ => by simp) (.slice none 0 0)).setCell (p := ⟨h + 1, 0, none⟩) (fun _ => by simp) (.int .i64 k)).setCell (p := ⟨h + 2, 0, none⟩) (fun _ => by simp) (.int .i64 c)).drew
 have f0 : (((wa.setCell ⟨h, 0, none⟩ (.slice none 0 0)).setCell ⟨h + 1, 0, none⟩ (.int .i64 k)).setCell ⟨h + 2, 0, none⟩ (.int .i64 c)).drew.cell? ⟨h, 0, none⟩ = some (.slice none 0 0) := row_cells g0 0
 have f1 : (((wa.setCell ⟨h, 0, none⟩ (.slice none 0 0)).setCell ⟨h + 1, 0, none⟩ (.int .i64 k)).setCell ⟨h + 2, 0, none⟩ (.int .i64 c)).drew.cell? ⟨h + 1, 0, none⟩ = some (.int .i64 k) := row_cells g1 0
 have f2 : (((wa.setCell ⟨h, 0, none⟩ (.slice none 0 0)).setCell ⟨h + 1, 0, none⟩ (.int .i64 k)).setCell ⟨h + 2, 0, none⟩ (.int .i64 c)).drew.cell? ⟨h + 2, 0, none⟩ = some (.int .i64 c) := row_cells g2 0
 clear p0 q0 r0 p1 q1 r1 a0 hA hp' hq' hr' hC
 revert f0 f1 f2 hC3
 generalize (((wa.setCell ⟨h, 0, none⟩ (.slice none 0 0)).setCell ⟨h + 1, 0, none⟩ (.int .i64 k)).setCell ⟨h + 2, 0, none⟩ (.int .i64 c)).drew = wb
 intro f0 f1 f2 hC3
 go_wp2
 cases c₀
 simp only at hu
 subst hu
 simp [bodyPostS, results, Tryz.results96, f0, f1, f2, hC3]
def ScanEnd (w : World) (s : ByteArray) (R : Rs (List Part)) (e : Ending) (w' : World) : Prop :=
 Chg (fun _ => False) w w' ∧ match R with
  | .ok l rest => ∃ v, e = .returned (.tuple #[v, .int .i64 (s.size - rest.length : Nat), .int .i64 0]) ∧ (rest.length ≤ s.size ∧ rest = s.data.toList.drop (s.size - rest.length)) ∧ Own w' (fun j => w.heap.size ≤ j) 103 5 v (Part.ds l)
  | .err left c => e = .returned (.tuple #[.slice none 0 0, .int .i64 (s.size - left : Nat), .int .i64 c]) ∧ left ≤ s.size
set_option maxRecDepth 100000 in
set_option maxHeartbeats 2000000 in
theorem Scan_bad (s : ByteArray) (x : Int) (w : World) (hx : x < 0 ∨ s.size < x ∨ 8192 < s.size) :
  Calls Tryz.prog 85 #[.string s, .int .i64 x] w fun e w' => e = .returned (.tuple #[.slice none 0 0, .int .i64 0, .int .i64 1]) ∧ Chg (fun _ => False) w w' := by
 have h1 : decide (x < 0) = true ∨ (decide (x < 0) = false ∧ (decide ((s.size : Int) < x) = true ∨ (decide ((s.size : Int) < x) = false ∧ decide ((8192 : Int) < (s.size : Int)) = true))) := by
  simp only [decide_eq_true_eq, decide_eq_false_iff_not]; omega
 clear hx
 have hn : ¬ w.heap.size < w.heap.size := by omega
 rcases h1 with h1 | ⟨h1, h2 | ⟨h2, h3⟩⟩
 all_goals
  go_enter_defers Tryz.func85, Tryz.ntmps85
  go_wp2
  simp [bodyPostD, Leaves, results, Tryz.results85, go_sem]
  exact (((Chg.refl (fun _ => False) w).alloc _).alloc _).alloc _
set_option maxRecDepth 100000 in
set_option maxHeartbeats 2000000 in
theorem Scan_calls (s : ByteArray) (a : Nat) (w : World) (ha : a ≤ s.size) (hs : s.size ≤ 8192) :
  Calls Tryz.prog 85 #[.string s, .int .i64 a] w (ScanEnd w s (scan (s.data.toList.drop a))) := by
 have hmf : ∀ (fn : Fn) (first cap : Array Value) (w : World), (Instr.makeFunc fn first cap).run Tryz.prog w = .ok (.func fn first cap) w := fun _ _ _ _ => rfl
 have e1 : decide ((a : Int) < 0) = false := by simp
 have e2 : decide ((s.size : Int) < (a : Int)) = false := by simp; omega
 have e3 : decide ((8192 : Int) < (s.size : Int)) = false := by simp; omega
 generalize hR : scan (s.data.toList.drop a) = R
 have HR := Lib.hid hR; clear hR
 go_enter_defers Tryz.func85, Tryz.ntmps85
 go_wp2_with fail
 have c0 := row_new w (.cells #[.slice none 0 0] 70)
 have hA : ScanAt ((((w.alloc (Obj.cells #[Value.slice none 0 0] 70)).alloc (Obj.cells #[Value.int IntKind.i64 0] 3)).alloc (Obj.cells #[Value.int IntKind.i64 0] 25)).alloc (Obj.cells #[Value.string s, Value.int IntKind.i64 a, Value.int IntKind.i64 0] 137)) (w.heap.size + 1 + 1 + 1) s a 0 := by
  have := row_new (((w.alloc (Obj.cells #[Value.slice none 0 0] 70)).alloc (Obj.cells #[Value.int IntKind.i64 0] 3)).alloc (Obj.cells #[Value.int IntKind.i64 0] 25)) (Obj.cells #[Value.string s, Value.int IntKind.i64 a, Value.int IntKind.i64 0] 137)
  unfold ScanAt
  simpa using this
 have c1 : ((w.alloc (Obj.cells #[Value.slice none 0 0] 70)).alloc (Obj.cells #[Value.int IntKind.i64 0] 3)).heap[w.heap.size + 1]? = some (Obj.cells #[Value.int IntKind.i64 0] 3) := by
  have := row_new (w.alloc (Obj.cells #[Value.slice none 0 0] 70)) (Obj.cells #[Value.int IntKind.i64 0] 3)
  simpa using this
 have c2 : (((w.alloc (Obj.cells #[Value.slice none 0 0] 70)).alloc (Obj.cells #[Value.int IntKind.i64 0] 3)).alloc (Obj.cells #[Value.int IntKind.i64 0] 25)).heap[w.heap.size + 2]? = some (Obj.cells #[Value.int IntKind.i64 0] 25) := by
  have := row_new ((w.alloc (Obj.cells #[Value.slice none 0 0] 70)).alloc (Obj.cells #[Value.int IntKind.i64 0] 3)) (Obj.cells #[Value.int IntKind.i64 0] 25)
  simpa using this
 have d0 := row_alloc (row_alloc (row_alloc c0 (Obj.cells #[Value.int IntKind.i64 0] 3)) (Obj.cells #[Value.int IntKind.i64 0] 25)) (Obj.cells #[Value.string s, Value.int IntKind.i64 a, Value.int IntKind.i64 0] 137)
 have d1 := row_alloc (row_alloc c1 (Obj.cells #[Value.int IntKind.i64 0] 25)) (Obj.cells #[Value.string s, Value.int IntKind.i64 a, Value.int IntKind.i64 0] 137)
 have d2 := row_alloc c2 (Obj.cells #[Value.string s, Value.int IntKind.i64 a, Value.int IntKind.i64 0] 137)
 have hC := ((((Chg.refl (fun _ => False) w).alloc (Obj.cells #[Value.slice none 0 0] 70)).alloc (Obj.cells #[Value.int IntKind.i64 0] 3)).alloc (Obj.cells #[Value.int IntKind.i64 0] 25)).alloc (Obj.cells #[Value.string s, Value.int IntKind.i64 a, Value.int IntKind.i64 0] 137)
 clear c0 c1 c2
 refine (word_calls _ (w.heap.size + 1 + 1 + 1) s a hA ha hs).mono ?_
 intro e w1 hpost
 rw [HR.out] at hpost
 cases R with
 | err left c =>
  obtain ⟨k, hk, hl, rfl, hC1⟩ := hpost
  have r0 := row_chg d0 hC1 (by simp; omega)
  have r1 := row_chg d1 hC1 (by simp)
  have r2 := row_chg d2 hC1 (by simp)
  have hC2 := hC.trans hC1 (fun j h hl => by simp at h; omega)
  clear d0 d1 d2 hC hC1 hA
  refine leaves_cons (f := 96) (args := #[.pointer (some ⟨w.heap.size, 0, none⟩), .pointer (some ⟨w.heap.size + 1, 0, none⟩), .pointer (some ⟨w.heap.size + 2, 0, none⟩)]) (by simp) (by simp [go_sem]) ?_
  refine (catch_fault w.heap.size _ _ _ k c w1 _ _ _ r0 r1 r2).mono ?_
  rintro e u' w2 ⟨rfl, rfl, f0, f1, f2, hC3⟩
  simp [Leaves, settle, results, Tryz.results85, go_sem, f0, f1, f2]
  refine ⟨hC2.trans hC3 (fun j h hl => by have := h.1; omega), ?_, by omega⟩
  rw [show s.size - left = k by omega]
 | ok l rest =>
  obtain ⟨v, k, rfl, hk, rfl, hO, hA1, hC1⟩ := hpost
  have r0 := row_chg d0 hC1 (by simp; omega)
  have r1 := row_chg d1 hC1 (by simp)
  have r2 := row_chg d2 hC1 (by simp)
  have hC2 := hC.trans hC1 (fun j h hl => by simp at h; omega)
  clear d0 d1 d2 hC hC1 hA
  obtain ⟨k0, k1, k2, kf1, _, kgl⟩ := hA1.cells
  have hgr := row_lt hA1
  have p0 := row_cells r0
  have p1 := row_cells r1
  have p2 := row_cells r2
  have q0 := row_free r0
  have q1 := row_free r1
  have q2 := row_free r2
  obtain ⟨A, c, rfl, _, _⟩ := Own.form hO
  have m1 : ¬ w.heap.size + 1 + 1 + 1 = w.heap.size := by omega
  have m2 : ¬ w.heap.size = w.heap.size + 1 + 1 + 1 := by omega
  have R0 := Lib.hid r0; clear r0
  have R1 := Lib.hid r1; clear r1
  have R2 := Lib.hid r2; clear r2
  have m3 : ¬ w.heap.size + 1 + 1 + 1 = w.heap.size + 1 := by omega
  have m4 : ¬ w.heap.size + 1 + 1 + 1 = w.heap.size + 2 := by omega
  have m5 : ¬ w.heap.size + 1 = w.heap.size + 1 + 1 + 1 := by omega
  have m6 : ¬ w.heap.size + 2 = w.heap.size + 1 + 1 + 1 := by omega
  have m7 : ¬ w.heap.size = w.heap.size + 1 + 1 := by omega
  have m8 : ¬ w.heap.size + 1 + 1 = w.heap.size := by omega
  have m9 : ¬ w.heap.size + 1 + 1 + 1 = w.heap.size + 1 + 1 := by omega
  have m10 : ¬ w.heap.size + 1 + 1 = w.heap.size + 1 + 1 + 1 := by omega
  go_wp2
  have s0 := row_set R0.out 0 (.slice A (Part.ds l).length c)
  have s1 := row_far R1.out (p := ⟨w.heap.size, 0, none⟩) (by simp) (.slice A (Part.ds l).length c)
  have s2 := row_far R2.out (p := ⟨w.heap.size, 0, none⟩) (by simp) (.slice A (Part.ds l).length c)
  have s3 := row_far hA1 (p := ⟨w.heap.size, 0, none⟩) m1 (.slice A (Part.ds l).length c)
  have hC4 := hC2.setCell (p := ⟨w.heap.size, 0, none⟩) (fun h => absurd h (by simp)) (.slice A (Part.ds l).length c)
  have hO4 := (Own.mono hO (S' := fun j => w.heap.size + 3 ≤ j) (fun j h _ => h.elim (fun h => h.elim) (fun h => by simp at h; omega))).stay ((Chg.refl (fun j => j ≤ w.heap.size + 2) _).setCell (p := ⟨w.heap.size, 0, none⟩) (fun _ => by simp) (.slice A (Part.ds l).length c)) (fun j h e => by omega)
  clear p0 p1 p2 q0 q1 q2 k0 k1 k2 kf1 hO hA1 R0 R1 R2 hC2 kgl hgr
  revert s0 s1 s2 s3 hC4 hO4
  generalize w1.setCell ⟨w.heap.size, 0, none⟩ (.slice A (Part.ds l).length c) = wa
  intro s0 s1 s2 s3 hC4 hO4
  obtain ⟨k0, k1, k2, kf1, _, kgl⟩ := ScanAt.cells s3
  have p0 := row_cells s0
  have p1 := row_cells s1
  have p2 := row_cells s2
  have q0 := row_free s0
  have q1 := row_free s1
  have q2 := row_free s2
  have z0 : (wa.setCell ⟨w.heap.size, 0, none⟩ (.slice A (Part.ds l).length c)).cell? ⟨w.heap.size, 0, none⟩ = some (.slice A (Part.ds l).length c) := row_cells (row_set s0 0 (.slice A (Part.ds l).length c)) 0
  have z1 : (wa.setCell ⟨w.heap.size, 0, none⟩ (.slice A (Part.ds l).length c)).cell? ⟨w.heap.size + 1 + 1 + 1, 1, none⟩ = some (.int .i64 k) := row_cells (row_far s3 (p := ⟨w.heap.size, 0, none⟩) m1 _) 1
  go_region_held3 (fun w' => w'.cell? ⟨w.heap.size, 0, none⟩ = some (.slice A (Part.ds l).length c) ∧ w'.cell? ⟨w.heap.size + 1 + 1 + 1, 1, none⟩ = some (.int .i64 k)) (first | go_keep | (go_split_ands; exact ⟨z0, z1⟩)) (fail)
  have f0 : (((wa.setCell ⟨w.heap.size, 0, none⟩ (.slice A (Part.ds l).length c)).setCell ⟨w.heap.size + 1, 0, none⟩ (.int .i64 k)).setCell ⟨w.heap.size + 1 + 1, 0, none⟩ (.int .i64 0)).drew.cell? ⟨w.heap.size, 0, none⟩ = some (.slice A (Part.ds l).length c) := row_cells (row_far (row_far (row_set s0 0 _) (p := ⟨w.heap.size + 1, 0, none⟩) (by simp) _) (p := ⟨w.heap.size + 1 + 1, 0, none⟩) m7 _) 0
  have f1 : (((wa.setCell ⟨w.heap.size, 0, none⟩ (.slice A (Part.ds l).length c)).setCell ⟨w.heap.size + 1, 0, none⟩ (.int .i64 k)).setCell ⟨w.heap.size + 1 + 1, 0, none⟩ (.int .i64 0)).drew.cell? ⟨w.heap.size + 1, 0, none⟩ = some (.int .i64 k) := row_cells (row_far (row_set (row_far s1 (p := ⟨w.heap.size, 0, none⟩) (by simp) _) 0 _) (p := ⟨w.heap.size + 1 + 1, 0, none⟩) (by simp) _) 0
  have f2 : (((wa.setCell ⟨w.heap.size, 0, none⟩ (.slice A (Part.ds l).length c)).setCell ⟨w.heap.size + 1, 0, none⟩ (.int .i64 k)).setCell ⟨w.heap.size + 1 + 1, 0, none⟩ (.int .i64 0)).drew.cell? ⟨w.heap.size + 2, 0, none⟩ = some (.int .i64 0) := row_cells (row_set (row_far (row_far s2 (p := ⟨w.heap.size, 0, none⟩) (by simp) _) (p := ⟨w.heap.size + 1, 0, none⟩) (by simp) _) 0 _) 0
  have hC5 : Chg (fun _ => False) w (((wa.setCell ⟨w.heap.size, 0, none⟩ (.slice A (Part.ds l).length c)).setCell ⟨w.heap.size + 1, 0, none⟩ (.int .i64 k)).setCell ⟨w.heap.size + 1 + 1, 0, none⟩ (.int .i64 0)).drew := (((hC4.setCell (p := ⟨w.heap.size, 0, none⟩) (fun h => absurd h (by simp)) _).setCell (p := ⟨w.heap.size + 1, 0, none⟩) (fun h => absurd h (by simp)) _).setCell (p := ⟨w.heap.size + 1 + 1, 0, none⟩) (fun h => absurd h (by simp; omega)) _).drew
  have hO5 : Own (((wa.setCell ⟨w.heap.size, 0, none⟩ (.slice A (Part.ds l).length c)).setCell ⟨w.heap.size + 1, 0, none⟩ (.int .i64 k)).setCell ⟨w.heap.size + 1 + 1, 0, none⟩ (.int .i64 0)).drew (fun j => w.heap.size ≤ j) 103 5 (.slice A (Part.ds l).length c) (Part.ds l) := (hO4.stay ((((Chg.refl (fun j => j ≤ w.heap.size + 2) _).setCell (p := ⟨w.heap.size, 0, none⟩) (fun _ => by simp) _).setCell (p := ⟨w.heap.size + 1, 0, none⟩) (fun _ => by simp) _).setCell (p := ⟨w.heap.size + 1 + 1, 0, none⟩) (fun _ => by simp) _).drew (fun j h e => by omega)).mono (fun j h _ => by omega)
  clear p0 p1 p2 q0 q1 q2 k0 k1 k2 kf1 z0 z1 s0 s1 s2 s3 hC4 hO4
  rename_i hHeld
  clear hHeld
  revert f0 f1 f2 hC5 hO5
  generalize (((wa.setCell ⟨w.heap.size, 0, none⟩ (.slice A (Part.ds l).length c)).setCell ⟨w.heap.size + 1, 0, none⟩ (.int .i64 k)).setCell ⟨w.heap.size + 1 + 1, 0, none⟩ (.int .i64 0)).drew = wb
  intro f0 f1 f2 hC5 hO5
  go_wp2
  refine leaves_cons (f := 96) (args := #[.pointer (some ⟨w.heap.size, 0, none⟩), .pointer (some ⟨w.heap.size + 1, 0, none⟩), .pointer (some ⟨w.heap.size + 2, 0, none⟩)]) (by simp) (by simp [go_sem]) ?_
  refine (catch_idle _ _ _ _).mono ?_
  rintro e u' w2 ⟨rfl, rfl, rfl⟩
  simp [Leaves, settle, results, Tryz.results85, go_sem, f0, f1, f2]
  refine ⟨hC5, _, ?_, ?_, hO5⟩
  ·rw [drop_len, show s.size - (s.size - k) = k by omega]
  ·rw [drop_len]
   exact ⟨by omega, by rw [show s.size - (s.size - k) = k by omega]⟩
theorem beqs_length : ∀ (a b : List Part), a.length ≠ b.length → beqs a b = false
 | [], [], h => absurd rfl h
 | [], _ :: _, _ => by simp [beqs]
 | _ :: _, [], _ => by simp [beqs]
 | p :: a, q :: b, h => by rw [beqs, beqs_length a b (by simpa using h), Bool.and_false]
theorem beqs_drop (a b : List Part) (k : Nat) (p q : Part) (hp : a[k]? = some p) (hq : b[k]? = some q) : beqs (a.drop k) (b.drop k) = (Part.beq p q && beqs (a.drop (k + 1)) (b.drop (k + 1))) := by
 obtain ⟨h1, e1⟩ := List.getElem?_eq_some_iff.1 hp
 obtain ⟨h2, e2⟩ := List.getElem?_eq_some_iff.1 hq
 rw [List.drop_eq_getElem_cons h1, List.drop_eq_getElem_cons h2, e1, e2, beqs]
def SameSaid (n : Nat) : Prop := ∀ (w : World) (S1 S2 : Nat → Prop) (v1 v2 : Value) (l1 l2 : List Part), Part.wts l1 ≤ n →
 Rep w S1 (.sl 103 5 (Part.ds l1)) [v1] → Rep w S2 (.sl 103 5 (Part.ds l2)) [v2] →
 Calls Tryz.prog 38 #[v1, v2] w fun e w' => e = .returned (.bool (beqs l1 l2)) ∧ ∃ m, w' = w.drewN m
set_option maxRecDepth 100000 in
set_option maxHeartbeats 4000000 in
theorem same_step (n : Nat) (IH : ∀ m, m < n → SameSaid m) : SameSaid n := by
 intro w S1 S2 v1 v2 l1 l2 hn h1 h2
 obtain ⟨B1, d1, i1, e1, hd1, hx1, hR1, hE1⟩ := h1
 obtain ⟨B2, d2, i2, e2, hd2, hx2, hR2, hE2⟩ := h2
 have hv1 : v1 = .slice B1 l1.length d1 := by rw [Part.ds_length] at e1; simpa using e1
 have hv2 : v2 = .slice B2 l2.length d2 := by rw [Part.ds_length] at e2; simpa using e2
 subst hv1
 subst hv2
 rw [Part.ds_length] at hd1 hd2
 have h1 : Rep w S1 (.sl 103 5 (Part.ds l1)) [.slice B1 l1.length d1] := ⟨B1, d1, i1, by rw [Part.ds_length], by rw [Part.ds_length]; exact hd1, hx1, hR1, hE1⟩
 have h2 : Rep w S2 (.sl 103 5 (Part.ds l2)) [.slice B2 l2.length d2] := ⟨B2, d2, i2, by rw [Part.ds_length], by rw [Part.ds_length]; exact hd2, hx2, hR2, hE2⟩
 clear e1 e2 hR1 hR2 hE1 hE2
 simp only [maxLen] at hx1 hx2
 by_cases hl : l1.length = l2.length
 ·have t1 : ((l1.length : Int) != (l2.length : Int)) = false := by simp; omega
  generalize hR : beqs l1 l2 = R
  have HR := Lib.hid hR; clear hR
  go_enter Tryz.func38, Tryz.ntmps38
  go_wp2
  go_loopg [5] l1.length (fun rk i wr => ∃ k : Nat, k + rk = l1.length ∧ i = .int .i64 k ∧ (∃ m, wr = w.drewN m) ∧ Hid (beqs (l1.drop k) (l2.drop k) = R))
  case atStart => exact ⟨0, by omega, rfl, ⟨0, rfl⟩, Lib.hid (by simpa using HR.out)⟩
  case round =>
   obtain ⟨k, hk, rfl, ⟨m, hm⟩, HK⟩ := hrel
   have h1' : Rep wr S1 (.sl 103 5 (Part.ds l1)) [.slice B1 l1.length d1] := by rw [hm]; exact h1.stay ((Chg.refl (fun _ => False) _).drewN _) (fun _ _ e => e)
   have h2' : Rep wr S2 (.sl 103 5 (Part.ds l2)) [.slice B2 l2.length d2] := by rw [hm]; exact h2.stay ((Chg.refl (fun _ => False) _).drewN _) (fun _ _ e => e)
   clear h1 h2
   have HM := Lib.hid hm; clear hm
   by_cases hlt : k < l1.length
   ·obtain ⟨p1, hp1⟩ : ∃ p, l1[k]? = some p := ⟨l1[k], List.getElem?_eq_getElem hlt⟩
    obtain ⟨p2, hp2⟩ : ∃ p, l2[k]? = some p := ⟨l2[k], List.getElem?_eq_getElem (by omega)⟩
    have HB := Lib.hid (beqs_drop l1 l2 k p1 p2 hp1 hp2)
    have hwp := wt_get hp1
    have hwd := wts_drop l1 k
    obtain ⟨b1, o1, c1', cs1, hv1, _, _, hb1, hr1, _, hcs1⟩ := sl_get h1' (by omega) k p1.d (by rw [Part.ds_map, List.getElem?_map, hp1]; rfl)
    obtain ⟨b2, o2, c2', cs2, hv2, _, _, hb2, hr2, _, hcs2⟩ := sl_get h2' (by omega) k p2.d (by rw [Part.ds_map, List.getElem?_map, hp2]; rfl)
    simp only [Part.ds_length, Value.slice.injEq] at hv1 hv2
    obtain ⟨rfl, _, rfl⟩ := hv1
    obtain ⟨rfl, _, rfl⟩ := hv2
    clear hp1 hp2 h1' h2'
    obtain ⟨kd1, qd1, td1, od1, wd1⟩ := p1
    obtain ⟨A1, c1, rfl, hwv1, hc1, hm1⟩ := part_rep2 hr1
    have g10 := hcs1 0 _ rfl
    have g11 := hcs1 1 _ rfl
    have g12 := hcs1 2 _ rfl
    have g13 := hcs1 3 _ rfl
    have g14 := hcs1 4 _ rfl
    simp only [Nat.add_zero, ← Nat.add_assoc] at g10 g11 g12 g13 g14
    clear hcs1
    obtain ⟨kd2, qd2, td2, od2, wd2⟩ := p2
    obtain ⟨A2, c2, rfl, hwv2, hc2, hm2⟩ := part_rep2 hr2
    have g20 := hcs2 0 _ rfl
    have g21 := hcs2 1 _ rfl
    have g22 := hcs2 2 _ rfl
    have g23 := hcs2 3 _ rfl
    have g24 := hcs2 4 _ rfl
    simp only [Nat.add_zero, ← Nat.add_assoc] at g20 g21 g22 g23 g24
    clear hcs2
    have hlt2 : k < l2.length := by omega
    simp only [Part.wt] at hwp
    cases hk0 : (kd1 != kd2)
    case true =>
     have hR0 : Hid (R = false) := Lib.hid (by
      rw [← HK.out, HB.out, Part.beq, show (kd1 == kd2) = false by simpa using hk0]; rfl)
     go_wp2
     go_quiet (fail)
     go_wp2
     go_ret
     exact ⟨by rw [hR0.out]; try rfl, m + nq, by rw [HM.out, World.drewN_drewN]⟩
    case false =>
     cases hk1 : (qd1 == qd2)
     case false =>
      have hR0 : Hid (R = false) := Lib.hid (by
       rw [← HK.out, HB.out, Part.beq, hk1]; simp)
      go_wp2
      go_quiet (fail)
      go_wp2
      go_ret
      exact ⟨by rw [hR0.out]; try rfl, m + nq, by rw [HM.out, World.drewN_drewN]⟩
     case true =>
      have hst : ((bstr td1).toList == (bstr td2).toList) = (td1 == td2) := by rw [ByteArray.toList_eq, ByteArray.toList_eq, bstr_toList, bstr_toList]
      have hso : ((bstr od1).toList == (bstr od2).toList) = (od1 == od2) := by rw [ByteArray.toList_eq, ByteArray.toList_eq, bstr_toList, bstr_toList]
      clear hr1 hr2
      revert hst hso g12 g13 g22 g23
      generalize bstr td1 = xt1
      generalize bstr td2 = xt2
      generalize bstr od1 = xo1
      generalize bstr od2 = xo2
      intro g12 g13 g22 g23 hst hso
      cases hk2 : (td1 == td2)
      case false =>
       rw [hk2] at hst
       have hR0 : Hid (R = false) := Lib.hid (by
        rw [← HK.out, HB.out, Part.beq, hk2]; simp)
       go_wp2
       go_quiet (fail)
       go_wp2
       go_ret
       exact ⟨by rw [hR0.out]; try rfl, m + nq, by rw [HM.out, World.drewN_drewN]⟩
      case true =>
       rw [hk2] at hst
       cases hk3 : (od1 == od2)
       case false =>
        rw [hk3] at hso
        have hR0 : Hid (R = false) := Lib.hid (by
         rw [← HK.out, HB.out, Part.beq, hk3]; simp)
        go_wp2
        go_quiet (fail)
        go_wp2
        go_ret
        exact ⟨by rw [hR0.out]; try rfl, m + nq, by rw [HM.out, World.drewN_drewN]⟩
       case true =>
        rw [hk3] at hso
        cases hk4 : beqs wd1 wd2
        case false =>
         have hR0 : Hid (R = false) := Lib.hid (by
          rw [← HK.out, HB.out, Part.beq, hk4]; simp)
         have hcall : ∀ m' : Nat, Calls Tryz.prog 38 #[.slice A1 wd1.length c1, .slice A2 wd2.length c2] (wr.drewN m') fun e w' => e = .returned (.bool false) ∧ ∃ n, w' = (wr.drewN m').drewN n :=
          fun m' => (IH _ (by omega) (wr.drewN m') S1 S2 _ _ wd1 wd2 (Nat.le_refl _) (hwv1.stay ((Chg.refl (fun _ => False) _).drewN _) (fun _ _ e => e)) (hwv2.stay ((Chg.refl (fun _ => False) _).drewN _) (fun _ _ e => e))).mono (fun _ _ hh => ⟨by rw [← hk4]; exact hh.1, hh.2⟩)
         go_wp2
         go_quiet ((go_at_call 38; exact (hcall _).quiet_of))
         go_wp2
         go_ret
         exact ⟨by rw [hR0.out]; try rfl, m + nq, by rw [HM.out, World.drewN_drewN]⟩
        case true =>
         have hR0 : Hid (beqs (l1.drop (k + 1)) (l2.drop (k + 1)) = R) := Lib.hid (by
          rw [← HK.out, HB.out, Part.beq, hk1, hk2, hk3, hk4, show (kd1 == kd2) = true by simpa using hk0]; rfl)
         have hcall : ∀ m' : Nat, Calls Tryz.prog 38 #[.slice A1 wd1.length c1, .slice A2 wd2.length c2] (wr.drewN m') fun e w' => e = .returned (.bool true) ∧ ∃ n, w' = (wr.drewN m').drewN n :=
          fun m' => (IH _ (by omega) (wr.drewN m') S1 S2 _ _ wd1 wd2 (Nat.le_refl _) (hwv1.stay ((Chg.refl (fun _ => False) _).drewN _) (fun _ _ e => e)) (hwv2.stay ((Chg.refl (fun _ => False) _).drewN _) (fun _ _ e => e))).mono (fun _ _ hh => ⟨by rw [← hk4]; exact hh.1, hh.2⟩)
         go_wp2
         go_quiet ((go_at_call 38; exact (hcall _).quiet_of))
         go_wp2
         go_roundg (gk - 1)
         case measure => omega
         case rel => exact ⟨k + 1, by omega, by go_num, ⟨m + nq, by rw [HM.out, World.drewN_drewN]⟩, hR0⟩
   ·have hR0 : Hid (R = true) := Lib.hid (by
     rw [← HK.out, List.drop_eq_nil_of_le (by omega), List.drop_eq_nil_of_le (by omega)]; rfl)
    go_wp2
    go_ret
    exact ⟨by rw [hR0.out]; try rfl, m, HM.out⟩
 ·have t1 : ((l1.length : Int) != (l2.length : Int)) = true := by simp; omega
  go_enter Tryz.func38, Tryz.ntmps38
  go_wp2
  go_ret
  exact ⟨by rw [beqs_length l1 l2 hl]; rfl, 0, rfl⟩
theorem same_calls (w : World) (S1 S2 : Nat → Prop) (v1 v2 : Value) (l1 l2 : List Part)
  (h1 : Rep w S1 (.sl 103 5 (Part.ds l1)) [v1]) (h2 : Rep w S2 (.sl 103 5 (Part.ds l2)) [v2]) :
  Calls Tryz.prog 38 #[v1, v2] w fun e w' => e = .returned (.bool (beqs l1 l2)) ∧ ∃ m, w' = w.drewN m := by
 have h : ∀ n, SameSaid n := fun n => Nat.strongRecOn n (fun n ih => same_step n ih)
 exact h _ w S1 S2 v1 v2 l1 l2 (Nat.le_refl _) h1 h2
theorem text_all : ∀ n, OneSaid n ∧ TextSaid n
 | 0 => ⟨fun _ _ _ _ h => absurd h (Nat.not_lt_zero _), fun _ _ _ _ h => absurd h (Nat.not_lt_zero _)⟩
 | n + 1 => ⟨one_step n (text_all n).2, text_step (n + 1) (one_step n (text_all n).2)⟩
theorem text_calls (w : World) (S : Nat → Prop) (v : Value) (ps : List Part) (hb : Part.wts ps ≤ 20000) (hm : HM w) (h : Rep w S (.sl 103 5 (Part.ds ps)) [v]) :
  Calls Tryz.prog 94 #[v] w fun e w' => e = .returned (.string (bstr (textP ps))) ∧ Chg (fun _ => False) w w' :=
 (text_all (Part.wts ps + 1)).2 w S v ps (Nat.lt_succ_self _) hb hm h
def WSame (n : Nat) : Prop := ∀ (w : World) (S1 S2 : Nat → Prop) (v1 v2 : Value) (l1 l2 : List Part), Part.wts l1 < n → Rep w S1 (.sl 103 5 (Part.ds l1)) [v1] → Rep w S2 (.sl 103 5 (Part.ds l2)) [v2] →
 Calls Tryz.prog 46 #[v1, v2] w fun e w' => e = .returned (.bool (beqs l1 l2)) ∧ Chg (fun _ => False) w w'
set_option maxRecDepth 100000 in
set_option maxHeartbeats 4000000 in
theorem wsame_step (n : Nat) (IH : WSame n) : WSame (n + 1) := by
 intro w S1 S2 v1 v2 l1 l2 hn h1 h2
 obtain ⟨B1, d1, rfl⟩ := sl_form2 h1
 obtain ⟨B2, d2, rfl⟩ := sl_form2 h2
 have hx1 : l1.length ≤ d1 ∧ d1 ≤ maxLen := by
  obtain ⟨_, _, _, e1, e2, e3, _⟩ := h1
  simp only [List.cons.injEq, Value.slice.injEq, and_true] at e1
  rw [Part.ds_length] at e2
  exact ⟨by omega, by omega⟩
 unfold maxLen at hx1
 rw [Part.ds_length] at h1 h2 ⊢
 rw [Part.ds_length]
 by_cases hl : l1.length = l2.length
 ·have t1 : ((l1.length : Int) != (l2.length : Int)) = false := by simp; omega
  generalize hR : beqs l1 l2 = R
  have HR := Lib.hid hR; clear hR
  have HL := Lib.hid hl; clear hl
  go_enter Tryz.func46, Tryz.ntmps46
  go_wp2
  go_loopg [15] l1.length (fun rk i wr => ∃ k : Nat, k + rk = l1.length ∧ i = .int .i64 k ∧ Chg (fun _ => False) w wr ∧ Hid (beqs (l1.drop k) (l2.drop k) = R))
  case atStart => exact ⟨0, by omega, rfl, Chg.refl _ _, Lib.hid (by simpa using HR.out)⟩
  case round =>
   obtain ⟨k, hk, rfl, hC, HK⟩ := hrel
   generalize wr = W at *
   have h1' := h1.stay hC (fun _ _ e => e)
   have h2' := h2.stay hC (fun _ _ e => e)
   clear h1 h2
   by_cases hlt : k < l1.length
   ·obtain ⟨p1, hp1⟩ : ∃ p, l1[k]? = some p := ⟨l1[k], List.getElem?_eq_getElem hlt⟩
    obtain ⟨p2, hp2⟩ : ∃ p, l2[k]? = some p := ⟨l2[k]'(by rw [← HL.out]; exact hlt), List.getElem?_eq_getElem (by rw [← HL.out]; exact hlt)⟩
    have HB := Lib.hid (beqs_drop l1 l2 k p1 p2 hp1 hp2)
    have hwp := wt_mem hp1
    obtain ⟨b1, o1, c1', cs1, hv1, _, _, hb1, hr1, _, hcs1⟩ := sl_get h1' (by omega) k p1.d (by rw [Part.ds_map, List.getElem?_map, hp1]; rfl)
    obtain ⟨b2, o2, c2', cs2, hv2, _, _, hb2, hr2, _, hcs2⟩ := sl_get h2' (by omega) k p2.d (by rw [Part.ds_map, List.getElem?_map, hp2]; rfl)
    simp only [Part.ds_length, Value.slice.injEq] at hv1 hv2
    obtain ⟨rfl, _, rfl⟩ := hv1
    obtain ⟨rfl, _, rfl⟩ := hv2
    clear hp1 hp2 h1' h2'
    obtain ⟨kd1, qd1, td1, od1, wd1⟩ := p1
    obtain ⟨Aw1, cw1, rfl, hw1, _⟩ := part_rep2 hr1
    have g10 := hcs1 0 _ rfl
    have g11 := hcs1 1 _ rfl
    have g12 := hcs1 2 _ rfl
    have g13 := hcs1 3 _ rfl
    have g14 := hcs1 4 _ rfl
    simp only [Nat.add_zero, ← Nat.add_assoc] at g10 g11 g12 g13 g14
    clear hcs1
    obtain ⟨kd2, qd2, td2, od2, wd2⟩ := p2
    obtain ⟨Aw2, cw2, rfl, hw2, _⟩ := part_rep2 hr2
    have g20 := hcs2 0 _ rfl
    have g21 := hcs2 1 _ rfl
    have g22 := hcs2 2 _ rfl
    have g23 := hcs2 3 _ rfl
    have g24 := hcs2 4 _ rfl
    simp only [Nat.add_zero, ← Nat.add_assoc] at g20 g21 g22 g23 g24
    clear hcs2
    have a20 := fun O => ((Chg.refl (fun _ => False) W).alloc O).cell g20 (fun e => e)
    have a21 := fun O => ((Chg.refl (fun _ => False) W).alloc O).cell g21 (fun e => e)
    have a22 := fun O => ((Chg.refl (fun _ => False) W).alloc O).cell g22 (fun e => e)
    have a23 := fun O => ((Chg.refl (fun _ => False) W).alloc O).cell g23 (fun e => e)
    have a24 := fun O => ((Chg.refl (fun _ => False) W).alloc O).cell g24 (fun e => e)
    clear g20 g21 g22 g23 g24
    have hlt2 : k < l2.length := by rw [← HL.out]; exact hlt
    have r0 : IntKind.i64.wrap ((k : Int) + 1) = (k : Int) + 1 := IntWalk.i64_in _ (by omega)
    simp only [Part.wt] at hwp
    have HC : Hid (∀ w', Chg (fun _ => False) W w' → Calls Tryz.prog 46 #[.slice Aw1 wd1.length cw1, .slice Aw2 wd2.length cw2] w' fun e w'' => e = .returned (.bool (beqs wd1 wd2)) ∧ Chg (fun _ => False) w' w'') :=
     Lib.hid (fun w' hc => IH w' S1 S2 _ _ wd1 wd2 (by omega) (hw1.stay hc (fun _ _ e => e)) (hw2.stay hc (fun _ _ e => e)))
    clear hw1 hw2 hr1 hr2 hb1 hb2
    cases hk0 : (kd1 != kd2)
    case true =>
     have hR0 : Hid (R = false) := Lib.hid (by
      rw [← HK.out, HB.out, Part.beq, show (kd1 == kd2) = false by simpa using hk0]; rfl)
     have hk0' : (kd1 == kd2) = false := by simpa using hk0
     clear HC
     go_wp2
     go_ret
     exact ⟨by rw [hR0.out]; try rfl, hC.trans (((Chg.refl (fun _ => False) _).alloc _).alloc _) (fun _ h _ => h)⟩
    case false =>
     have hk0' : (kd1 == kd2) = true := by simpa using hk0
     cases hk1 : (qd1 == qd2)
     case false =>
      have hR0 : Hid (R = false) := Lib.hid (by
       rw [← HK.out, HB.out, Part.beq, hk1]; simp)
      clear HC
      go_wp2
      go_ret
      exact ⟨by rw [hR0.out]; try rfl, hC.trans (((Chg.refl (fun _ => False) _).alloc _).alloc _) (fun _ h _ => h)⟩
     case true =>
      have hst : ((bstr td1).toList == (bstr td2).toList) = (td1 == td2) := by rw [ByteArray.toList_eq, ByteArray.toList_eq, bstr_toList, bstr_toList]
      have hso : ((bstr od1).toList == (bstr od2).toList) = (od1 == od2) := by rw [ByteArray.toList_eq, ByteArray.toList_eq, bstr_toList, bstr_toList]
      generalize bstr td1 = xt1 at *
      generalize bstr td2 = xt2 at *
      generalize bstr od1 = xo1 at *
      generalize bstr od2 = xo2 at *
      cases hk2 : (td1 == td2)
      case false =>
       rw [hk2] at hst
       have hR0 : Hid (R = false) := Lib.hid (by
        rw [← HK.out, HB.out, Part.beq, hk2]; simp)
       clear HC
       go_wp2
       go_ret
       exact ⟨by rw [hR0.out]; try rfl, hC.trans (((Chg.refl (fun _ => False) _).alloc _).alloc _) (fun _ h _ => h)⟩
      case true =>
       rw [hk2] at hst
       cases hk3 : (od1 == od2)
       case false =>
        rw [hk3] at hso
        have hR0 : Hid (R = false) := Lib.hid (by
         rw [← HK.out, HB.out, Part.beq, hk3]; simp)
        clear HC
        go_wp2
        go_ret
        exact ⟨by rw [hR0.out]; try rfl, hC.trans (((Chg.refl (fun _ => False) _).alloc _).alloc _) (fun _ h _ => h)⟩
       case true =>
        rw [hk3] at hso
        cases hk4 : beqs wd1 wd2
        case false =>
         have hR0 : Hid (R = false) := Lib.hid (by
          rw [← HK.out, HB.out, Part.beq, hk4]; simp)
         rw [hk4] at HC
         go_wp2_with fail
         refine Calls.mono (HC.out _ (((Chg.refl (fun _ => False) _).alloc _).alloc _)) ?_
         rintro e w5 ⟨rfl, hC5⟩
         go_wp2
         go_ret
         exact ⟨by rw [hR0.out]; try rfl, (hC.trans (((Chg.refl (fun _ => False) _).alloc _).alloc _) (fun _ h _ => h)).trans hC5 (fun _ h _ => h)⟩
        case true =>
         have hR0 : Hid (beqs (l1.drop (k + 1)) (l2.drop (k + 1)) = R) := Lib.hid (by
          rw [← HK.out, HB.out, Part.beq, hk1, hk2, hk3, hk4, hk0']; rfl)
         rw [hk4] at HC
         go_wp2_with fail
         refine Calls.mono (HC.out _ (((Chg.refl (fun _ => False) _).alloc _).alloc _)) ?_
         rintro e w5 ⟨rfl, hC5⟩
         go_wp2
         go_roundg (l1.length - (k + 1))
         case measure => omega
         case rel => exact ⟨k + 1, by omega, rfl, (hC.trans (((Chg.refl (fun _ => False) _).alloc _).alloc _) (fun _ h _ => h)).trans hC5 (fun _ h _ => h), hR0⟩
   ·have hR0 : Hid (R = true) := Lib.hid (by
     rw [← HK.out, List.drop_eq_nil_of_le (by omega), List.drop_eq_nil_of_le (by rw [← HL.out]; omega)]; rfl)
    go_wp2
    go_ret
    exact ⟨by rw [hR0.out]; try rfl, hC⟩
 ·have t1 : ((l1.length : Int) != (l2.length : Int)) = true := by simp; omega
  go_enter Tryz.func46, Tryz.ntmps46
  go_wp2
  go_ret
  exact ⟨by rw [beqs_length l1 l2 hl]; try rfl, Chg.refl _ _⟩
theorem wsame_all : ∀ n, WSame n
 | 0 => fun _ _ _ _ _ _ _ h => absurd h (Nat.not_lt_zero _)
 | n + 1 => wsame_step n (wsame_all n)
theorem wsame_calls (w : World) (S1 S2 : Nat → Prop) (v1 v2 : Value) (l1 l2 : List Part) (h1 : Rep w S1 (.sl 103 5 (Part.ds l1)) [v1]) (h2 : Rep w S2 (.sl 103 5 (Part.ds l2)) [v2]) :
  Calls Tryz.prog 46 #[v1, v2] w fun e w' => e = .returned (.bool (beqs l1 l2)) ∧ Chg (fun _ => False) w w' :=
 wsame_all (Part.wts l1 + 1) w S1 S2 v1 v2 l1 l2 (Nat.lt_succ_self _) h1 h2
end Go.Proofs.YtdfnkmiabmjolaaGreatDoor
namespace Go.Proofs.YtdfnkmiabmjolaaGreatDoor
def Stops (r : Bytes) : Prop := r = [] ∨ ∃ c r', r = c :: r' ∧ metaB c = true
theorem word_stops : ∀ (n deep : Nat) (q : Bool) (l : List Part) (r : Bytes) (l' : List Part) (r' : Bytes), wordF n deep false q l r = .ok l' r' → Stops r'
 | 0, _, _, _, _, _, _, h => by simp [wordF] at h
 | n + 1, deep, q, l, [], l', r', h => by
  rw [wordF] at h
  simp only [Rs.ok.injEq] at h
  exact .inl h.2.symm
 | n + 1, deep, q, l, c :: r, l', r', h => by
  rw [wordF] at h
  split at h
  ·rename_i hc
   simp only [Rs.ok.injEq] at h
   exact .inr ⟨c, r, h.2.symm, by simpa using hc⟩
  ·split at h
   ·split at h
    ·exact word_stops n _ _ _ _ _ _ h
    ·simp at h
   ·split at h
    ·split at h
     ·simp at h
     ·exact word_stops n _ _ _ _ _ _ h
    ·split at h
     ·split at h
      ·exact word_stops n _ _ _ _ _ _ h
      ·simp at h
     ·split at h
      ·simp at h
      ·split at h
       ·split at h
        ·exact word_stops n _ _ _ _ _ _ h
        ·simp at h
       ·exact word_stops n _ _ _ _ _ _ h
theorem arithF_nz : ∀ (F dp : Nat) (acc r : Bytes) (a : Nat) (e : Int), arithF F dp acc r = .err a e → e ≠ 0
 | F, dp, acc, [], a, e, h => by
  rw [arithF] at h
  simp only [Rs.err.injEq] at h
  omega
 | F, dp, acc, c :: r, a, e, h => by
  rw [arith_cons] at h
  split at h
  ·simp only [Rs.err.injEq] at h; omega
  ·split at h
   ·exact arithF_nz _ _ _ r _ _ h
   ·split at h
    ·exact arithF_nz _ _ _ r _ _ h
    ·split at h
     ·split at h
      ·simp at h
      ·simp only [Rs.err.injEq] at h; omega
     ·exact arithF_nz _ _ _ r _ _ h
theorem escape_nz (l : List Part) (r : Bytes) (a : Nat) (e : Int) (h : escape l r = .err a e) : e ≠ 0 := by
 unfold escape at h
 split at h
 ·simp at h
 ·simp only [Rs.err.injEq] at h; omega
structure ScanNz (n : Nat) : Prop where
 word : ∀ deep br q l r a e, 4 * r.length + 3 ≤ n → wordF n deep br q l r = .err a e → e ≠ 0
 double : ∀ deep F l r a e, 4 * r.length + 6 ≤ n → doubleF n deep F l r = .err a e → e ≠ 0
 dollar : ∀ deep q r a e, 4 * r.length + 5 ≤ n → dollarF n deep q r = .err a e → e ≠ 0
 param : ∀ deep q r a e, 4 * r.length + 8 ≤ n → paramF n deep q r = .err a e → e ≠ 0
theorem scan_nz : ∀ n, ScanNz n
 | 0 => ⟨fun _ _ _ _ _ _ _ h => by omega, fun _ _ _ _ _ _ h => by omega, fun _ _ _ _ _ h => by omega, fun _ _ _ _ _ h => by omega⟩
 | n + 1 => by
  obtain ⟨ihw, ihd, ihs, ihp⟩ := scan_nz n
  obtain ⟨lw, ld, ls, lp⟩ := scan_len n
  refine ⟨?_, ?_, ?_, ?_⟩
  ·intro deep br q l r a e hn h
   cases r with
   | nil => simp [wordF] at h
   | cons c r =>
    simp only [List.length_cons] at hn
    rw [wordF] at h
    split at h
    ·simp at h
    ·split at h
     ·split at h
      ·rename_i l1 r1 he
       have := escape_len _ _ _ _ he
       exact ihw _ _ _ _ _ _ _ (by simp at this; omega) h
      ·rename_i a1 e1 he
       simp only [Rs.err.injEq] at h
       exact h.2 ▸ escape_nz _ _ _ _ he
     ·split at h
      ·split at h
       ·simp only [Rs.err.injEq] at h; omega
       ·exact ihw _ _ _ _ _ _ _ (by simp; omega) h
      ·split at h
       ·split at h
        ·rename_i l1 r1 he
         have := ld _ _ _ _ _ _ he
         exact ihw _ _ _ _ _ _ _ (by omega) h
        ·rename_i a1 e1 he
         simp only [Rs.err.injEq] at h
         exact h.2 ▸ ihd _ _ _ _ _ _ (by omega) he
       ·split at h
        ·simp only [Rs.err.injEq] at h; omega
        ·split at h
         ·split at h
          ·rename_i p1 r1 he
           have := ls _ _ _ _ _ he
           exact ihw _ _ _ _ _ _ _ (by omega) h
          ·rename_i a1 e1 he
           simp only [Rs.err.injEq] at h
           exact h.2 ▸ ihs _ _ _ _ _ (by omega) he
         ·exact ihw _ _ _ _ _ _ _ (by omega) h
  ·intro deep F l r a e hn h
   cases r with
   | nil =>
    rw [doubleF] at h
    simp only [Rs.err.injEq] at h; omega
   | cons c r =>
    simp only [List.length_cons] at hn
    rw [doubleF] at h
    split at h
    ·simp at h
    ·split at h
     ·simp only [Rs.err.injEq] at h; omega
     ·split at h
      ·split at h
       ·rename_i p1 r1 he
        have := ls _ _ _ _ _ he
        exact ihd _ _ _ _ _ _ (by omega) h
       ·rename_i a1 e1 he
        simp only [Rs.err.injEq] at h
        exact h.2 ▸ ihs _ _ _ _ _ (by omega) he
      ·split at h
       ·split at h
        ·rename_i l1 r1 he
         have := escape_len _ _ _ _ he
         exact ihd _ _ _ _ _ _ (by simp at this; omega) h
        ·rename_i a1 e1 he
         simp only [Rs.err.injEq] at h
         exact h.2 ▸ escape_nz _ _ _ _ he
       ·exact ihd _ _ _ _ _ _ (by omega) h
  ·intro deep q r a e hn h
   rw [dollarF, dollarG.eq_def] at h
   split at h
   ·simp only [Rs.err.injEq] at h; omega
   ·split at h
    ·simp at h
    ·split at h
     ·simp at h
     ·rename_i c r2
      simp only [List.length_cons] at hn
      split at h
      ·simp at h
      ·split at h
       ·exact ihp _ _ _ _ _ (by omega) h
       ·split at h
        ·split at h
         ·split at h
          ·simp at h
          ·rename_i a1 e1 he
           simp only [Rs.err.injEq] at h
           exact h.2 ▸ arithF_nz _ _ _ _ _ _ he
         ·split at h
          ·simp only [Rs.err.injEq] at h; omega
          ·simp at h
        ·simp at h
  ·intro deep q r a e hn h
   rw [paramF] at h
   split at h
   ·simp only [Rs.err.injEq] at h; omega
   ·have key : ∀ (len : Bool) (r1 : Bytes), r1.length ≤ r.length → paramG (wordF n (deep + 1) true q []) (r.length + 2) len q r1 = .err a e → e ≠ 0 := by
     intro len r1 hr1 h
     rw [paramG] at h
     split at h
     ·simp only [Rs.err.injEq] at h; omega
     ·have hfin : ∀ (t o : Bytes) (l : List Part) (r3 : Bytes), finish (r.length + 2) q t o (.ok l r3) = .err a e → e ≠ 0 := by
       intro t o l r3 h
       rw [finish.eq_def] at h
       dsimp only at h
       split at h
       ·simp only [Rs.err.injEq] at h; omega
       ·split at h
        ·simp at h
        ·simp only [Rs.err.injEq] at h; omega
      cases len with
      | true =>
       simp only [if_true, Bool.true_or] at h
       exact hfin _ _ _ _ h
      | false =>
       simp only [Bool.false_or, Bool.false_eq_true, if_false] at h
       by_cases hop : (opM (r1.drop (parameter r1)) == []) = true
       ·rw [if_pos hop] at h
        exact hfin _ _ _ _ h
       ·rw [if_neg hop] at h
        generalize hw : wordF n (deep + 1) true q [] ((r1.drop (parameter r1)).drop (opM (r1.drop (parameter r1))).length) = W at h
        cases W with
        | ok l r3 => exact hfin _ _ _ _ h
        | err a1 e1 =>
         simp only [finish, Rs.err.injEq] at h
         exact h.2 ▸ ihw _ _ _ _ _ _ _ (by simp; omega) hw
    split at h
    ·exact key _ _ (by simp) h
    ·exact key _ _ (Nat.le_refl _) h
theorem scan_err (r : Bytes) (a : Nat) (e : Int) (h : scan r = .err a e) : e ≠ 0 := (scan_nz _).word _ _ _ _ _ _ _ (Nat.le_refl _) h
theorem scan_ok (r r' : Bytes) (l : List Part) (h : scan r = .ok l r') : Stops r' ∧ Part.wts l + 2 * r'.length ≤ 2 * r.length := by
 refine ⟨word_stops _ _ _ _ _ _ _ h, ?_⟩
 have := ((scan_len _).word _ _ _ _ _ _ _ h).1
 simpa [Part.wts] using this
end Go.Proofs.YtdfnkmiabmjolaaGreatDoor
namespace Go.Proofs.YtdfnkmiabmjolaaGreatDoor
open Go.RowKit
def printW (ps : List Part) : Option Bytes :=
 if (textP ps).length > 8192 then none
 else match scan (textP ps) with
  | .ok l [] => if beqs l ps then some (textP ps) else none
  | _ => none
def strOf (r : Option Bytes) : ByteArray := match r with | some s => bstr s | none => ⟨#[]⟩
def errOf (r : Option Bytes) : Int := match r with | some _ => 0 | none => 1
set_option maxRecDepth 100000 in
set_option maxHeartbeats 2000000 in
theorem print_calls (w : World) (S : Nat → Prop) (v : Value) (ps : List Part) (hb : Part.wts ps ≤ 20000) (hm : HM w) (h : Rep w S (.sl 103 5 (Part.ds ps)) [v]) :
  Calls Tryz.prog 81 #[v] w fun e w' => e = .returned (.tuple #[.string (strOf (printW ps)), .int .i64 (errOf (printW ps))]) ∧ Chg (fun _ => False) w w' := by
 have hT := text_calls w S v ps hb hm h
 have htl := textP_len ps
 obtain ⟨A, c, rfl⟩ := sl_form2 h
 rw [Part.ds_length] at h hT ⊢
 generalize hr : printW ps = r
 unfold printW at hr
 have HR := Lib.hid hr; clear hr
 generalize htx : textP ps = tx at *
 clear htx
 by_cases hl : tx.length > 8192
 ·have hr : Hid (r = none) := Lib.hid (by rw [← HR.out, if_pos hl])
  go_enter Tryz.func81, Tryz.ntmps81
  go_wp2_with fail
  refine Calls.mono hT ?_
  rintro e w1 ⟨rfl, hC1⟩
  go_wp2_with fail
  refine Calls.mono (Scan_bad (bstr tx) 0 _ (.inr (.inr (by rw [bstr_size]; omega)))) ?_
  rintro e w2 ⟨rfl, hC2⟩
  go_wp2
  go_ret2
  exact ⟨by rw [hr.out]; rfl, hC1.trans hC2 (fun _ h _ => h)⟩
 ·have HS := fun w => Scan_calls (bstr tx) 0 w (Nat.zero_le _) (by rw [bstr_size]; omega)
  rw [bstr_toList, List.drop_zero] at HS
  have hE := scan_err tx
  have hr : Hid (r = match scan tx with | .ok l [] => if beqs l ps then some tx else none | _ => none) := Lib.hid (by rw [← HR.out, if_neg hl])
  have hsz : (bstr tx).size = tx.length := bstr_size tx
  have q1 : decide ((8192 : Int) < ((bstr tx).size : Int)) = false := by simp; omega
  have q2 : decide (8192 < (bstr tx).size) = false := by simp; omega
  clear HR hl
  generalize scan tx = R at *
  go_enter Tryz.func81, Tryz.ntmps81
  go_wp2_with fail
  refine Calls.mono hT ?_
  rintro e w1 ⟨rfl, hC1⟩
  have HS1 := HS w1
  have h1 := h.stay hC1 (fun _ _ e => e)
  clear HS hT h
  go_wp2_with fail
  refine Calls.mono HS1 ?_
  clear HS1
  rintro e w2 ⟨hC2, hp⟩
  have h2 := h1.stay hC2 (fun _ _ e => e)
  have hC := hC1.trans hC2 (fun _ h _ => h)
  clear hC1 hC2 h1
  cases R with
  | err left x =>
   obtain ⟨rfl, hle⟩ := hp
   have hx := hE left x rfl
   have q5 : (x == 0) = false := by simpa using hx
   have q6 : (x != 0) = true := by simpa using hx
   clear hx hE
   go_wp2
   go_ret2
   exact ⟨by rw [hr.out]; rfl, hC⟩
  | ok l rest =>
   obtain ⟨v1, rfl, ⟨hrl, _⟩, hO⟩ := hp
   obtain ⟨A1, c1, rfl, _, _⟩ := Own.form hO
   rw [Part.ds_length] at hO ⊢
   have HSZ := Lib.hid hsz
   clear hE hsz
   cases rest with
   | cons z zs =>
    have q7 : ((((bstr tx).size - (z :: zs).length : Nat) : Int) == ((bstr tx).size : Int)) = false := by
     rw [beq_eq_false_iff_ne]; simp only [List.length_cons] at hrl ⊢; omega
    have q8 : ((((bstr tx).size - (z :: zs).length : Nat) : Int) != ((bstr tx).size : Int)) = true := by
     rw [bne_iff_ne]; simp only [List.length_cons] at hrl ⊢; omega
    have hr2 : Hid (r = none) := Lib.hid hr.out
    clear hrl
    generalize (bstr tx).size - (z :: zs).length = kk at *
    have q9 : (kk == (bstr tx).size) = false := by rw [beq_eq_false_iff_ne]; rw [beq_eq_false_iff_ne] at q7; omega
    go_wp2
    go_ret2
    exact ⟨by rw [hr2.out]; rfl, hC⟩
   | nil =>
    have hS := wsame_calls w2 _ _ _ _ l ps hO.rep h2
    simp only [List.length_nil, Nat.sub_zero]
    clear hrl
    cases hbq : beqs l ps with
    | true =>
     rw [hbq] at hS
     have hr2 : Hid (r = some tx) := Lib.hid (by rw [hr.out]; simp [hbq])
     clear hr h2 hO hbq
     have HS5 := Lib.hid hS; clear hS
     generalize hbt : bstr tx = tb at *
     have HBT := Lib.hid hbt; clear hbt
     clear htl hb hm q2 HSZ
     go_wp2_with fail
     refine Calls.mono HS5.out ?_
     rintro e w3 ⟨rfl, hC3⟩
     clear HS5 q1
     dsimp only
     go_wp2_with fail
     refine bodyPost_ret (v := .tuple #[.string tb, .int .i64 0]) (by simp [results, Tryz.results81, go_sem]) rfl ?_
     exact ⟨by rw [hr2.out, ← HBT.out]; rfl, hC.trans hC3 (fun _ h _ => h)⟩
    | false =>
     rw [hbq] at hS
     have hr2 : Hid (r = none) := Lib.hid (by rw [hr.out]; simp [hbq])
     clear hr h2 hO hbq
     have HS5 := Lib.hid hS; clear hS
     generalize hbt : bstr tx = tb at *
     have HBT := Lib.hid hbt; clear hbt
     clear htl hb hm q2 HSZ
     go_wp2_with fail
     refine Calls.mono HS5.out ?_
     rintro e w3 ⟨rfl, hC3⟩
     clear HS5 q1
     dsimp only
     go_wp2_with fail
     refine bodyPost_ret (v := .tuple #[.string ⟨#[]⟩, .int .i64 1]) (by simp [results, Tryz.results81, go_sem]) rfl ?_
     exact ⟨by rw [hr2.out]; rfl, hC.trans hC3 (fun _ h _ => h)⟩
end Go.Proofs.YtdfnkmiabmjolaaGreatDoor
namespace Go.Proofs.YtdfnkmiabmjolaaGreatDoor
def sOf (r : Option Bytes) : Bytes := r.getD []
theorem strOf_eq (r : Option Bytes) : strOf r = bstr (sOf r) := by cases r <;> rfl
def Wr.word (x : Wr) (l : List Part) : Wr := ⟨x.out ++ sOf (printW l), x.bad || (sOf (printW l)).isEmpty⟩
def Wr.redir (x : Wr) (r : Rdr) : Wr := (x.put (numT r.fd ++ r.op)).word r.word
def Wr.next (n : Nat) (x : Wr) : Wr := if 0 < n then x.put [32] else x
def Wr.asg (x : Wr) (a : Asg) : Wr := ⟨x.out ++ (a.name ++ ([61] ++ sOf (printW a.word))), x.bad || (printW a.word).isNone⟩
def sRedirs : Nat → Wr → List Rdr → Wr
 | _, x, [] => x
 | n, x, r :: rs => sRedirs (n + 1) ((x.next n).redir r) rs
def sAsgs : Nat → Wr → List Asg → Wr
 | _, x, [] => x
 | n, x, a :: l => sAsgs (n + 1) ((x.next n).asg a) l
def sWords : Nat → Wr → List (List Part) → Wr
 | _, x, [] => x
 | n, x, l :: ls => sWords (n + 1) ((x.next n).word l) ls
def Wr.simple (x : Wr) (xs : List Asg) (ws : List (List Part)) (rs : List Rdr) : Wr := sWords (rs.length + xs.length) (sAsgs rs.length (sRedirs 0 x rs) xs) ws
def cRedirs : Wr → List Rdr → Wr
 | x, [] => x
 | x, r :: rs => cRedirs ((x.put [32]).redir r) rs
def fWords : Wr → List (List Part) → Wr
 | x, [] => x
 | x, l :: ls => fWords ((x.put [32]).word l) ls
def cWords : Wr → List (List Part) → Wr
 | x, [] => x
 | x, l :: ls => cWords (x.word l) ls
def pWords : Nat → Wr → List (List Part) → Wr
 | _, x, [] => x
 | n, x, l :: ls => pWords (n + 1) ((if 0 < n then x.put [124] else x).word l) ls
def Wr.op (x : Wr) (n : Nat) (os : List Bytes) : Wr := if 0 < n && !x.bad then x.put ([32] ++ ((os[n - 1]?).getD [] ++ [32])) else x
mutual
def wLists : Wr → List Lst → Wr
 | x, [] => x
 | x, l :: ls => wLists ((wList x l).put [10]) ls
def wLists0 : Wr → List Lst → Wr
 | x, [] => x
 | x, l :: ls => wLists0 (wList x l) ls
def wList : Wr → Lst → Wr
 | x, .mk ps os => wPipes ⟨x.out, x.bad || (os.length : Int) != (ps.length : Int) - 1⟩ os 0 ps
def wPipes : Wr → List Bytes → Nat → List Pip → Wr
 | x, _, _, [] => x
 | x, os, n, p :: ps => wPipes (wPipe (x.op n os) p) os (n + 1) ps
def wPipe : Wr → Pip → Wr
 | x, .mk ng cs => wCmds (if ng then x.put [33, 32] else x) 0 cs
def wCmds : Wr → Nat → List Cmd → Wr
 | x, _, [] => x
 | x, n, c :: cs => wCmds (wCmd (if 0 < n then x.put [32, 124, 32] else x) c) (n + 1) cs
def wCmd : Wr → Cmd → Wr
 | x, .mk k n xs ws co bo ot ca rs =>
  if k == 1 then x.simple xs ws rs
  else cRedirs (
   if k == 2 then (wLists (x.put [123, 10]) bo).put [125]
   else if k == 3 then (wLists (x.put [40, 10]) bo).put [41]
   else if k == 4 then (if 0 < ot.length then wLists ((wLists ((wLists (x.put [105, 102, 10]) co).put [116, 104, 101, 110, 10]) bo).put [101, 108, 115, 101, 10]) ot else wLists ((wLists (x.put [105, 102, 10]) co).put [116, 104, 101, 110, 10]) bo).put [102, 105]
   else if k == 5 then (wLists ((wLists (x.put [119, 104, 105, 108, 101, 10]) co).put [100, 111, 10]) bo).put [100, 111, 110, 101]
   else if k == 6 then (wLists ((wLists (x.put [117, 110, 116, 105, 108, 10]) co).put [100, 111, 10]) bo).put [100, 111, 110, 101]
   else if k == 7 then (wLists (((fWords (x.put ([102, 111, 114, 32] ++ (n ++ [32, 105, 110]))) ws).put [10]).put [100, 111, 10]) bo).put [100, 111, 110, 101]
   else if k == 8 then (wCases ((cWords (x.put [99, 97, 115, 101, 32]) ws).put [32, 105, 110, 10]) ca).put [101, 115, 97, 99]
   else if k == 9 then wLists0 (x.put (n ++ [40, 41, 32])) bo
   else ⟨x.out, true⟩) rs
def wCases : Wr → List Cas → Wr
 | x, [] => x
 | x, c :: cs => wCases (wCase x c) cs
def wCase : Wr → Cas → Wr
 | x, .mk ps b => (wLists ((pWords 0 (x.put [40]) ps).put [41, 10]) b).put [59, 59, 10]
end
theorem printW_len (l : List Part) : (sOf (printW l)).length ≤ 8 * Part.wts l := by
 have h := textP_len l
 unfold printW
 split
 ·simp [sOf]
 ·split
  ·split
   ·simpa [sOf] using h
   ·simp [sOf]
  ·simp [sOf]
theorem put_len (x : Wr) (s : Bytes) : (x.put s).out.length = x.out.length + s.length := by simp [Wr.put]
theorem word_len (x : Wr) (l : List Part) : (x.word l).out.length ≤ x.out.length + 8 * Part.wts l := by
 have := printW_len l
 simp only [Wr.word, List.length_append]; omega
theorem redir_len (x : Wr) (r : Rdr) : (x.redir r).out.length ≤ x.out.length + 21 + 8 * r.great := by
 have h1 := word_len (x.put (numT r.fd ++ r.op)) r.word
 have h2 := numT_len r.fd
 rw [put_len, List.length_append] at h1
 unfold Wr.redir Rdr.great
 omega
theorem asg_len (x : Wr) (a : Asg) : (x.asg a).out.length ≤ x.out.length + 1 + 8 * a.great := by
 have := printW_len a.word
 simp only [Wr.asg, List.length_append, List.length_singleton, Asg.great]; omega
theorem next_len (x : Wr) (n : Nat) : (x.next n).out.length ≤ x.out.length + 1 := by
 unfold Wr.next; split
 ·rw [put_len]; simp
 ·omega
theorem sRedirs_len : ∀ (rs : List Rdr) (n : Nat) (x : Wr), (sRedirs n x rs).out.length ≤ x.out.length + 32 * rs.length + 32 * (rs.map Rdr.great).sum
 | [], n, x => by simp [sRedirs]
 | r :: rs, n, x => by
  have h1 := sRedirs_len rs (n + 1) ((x.next n).redir r)
  have h2 := redir_len (x.next n) r
  have h3 := next_len x n
  rw [sRedirs]; simp only [List.map_cons, List.sum_cons, List.length_cons]; omega
theorem sAsgs_len : ∀ (rs : List Asg) (n : Nat) (x : Wr), (sAsgs n x rs).out.length ≤ x.out.length + 32 * rs.length + 32 * (rs.map Asg.great).sum
 | [], n, x => by simp [sAsgs]
 | r :: rs, n, x => by
  have h1 := sAsgs_len rs (n + 1) ((x.next n).asg r)
  have h2 := asg_len (x.next n) r
  have h3 := next_len x n
  rw [sAsgs]; simp only [List.map_cons, List.sum_cons, List.length_cons]; omega
theorem sWords_len : ∀ (ws : List (List Part)) (n : Nat) (x : Wr), (sWords n x ws).out.length ≤ x.out.length + 32 * greatWords ws
 | [], n, x => by simp [sWords, greatWords]
 | w :: ws, n, x => by
  have h1 := sWords_len ws (n + 1) ((x.next n).word w)
  have h2 := word_len (x.next n) w
  have h3 := next_len x n
  rw [sWords]; simp only [greatWords, List.map_cons, List.sum_cons, List.length_cons] at h1 ⊢; omega
theorem cRedirs_len : ∀ (rs : List Rdr) (x : Wr), (cRedirs x rs).out.length ≤ x.out.length + 32 * rs.length + 32 * (rs.map Rdr.great).sum
 | [], x => by simp [cRedirs]
 | r :: rs, x => by
  have h1 := cRedirs_len rs ((x.put [32]).redir r)
  have h2 := redir_len (x.put [32]) r
  rw [put_len] at h2
  rw [cRedirs]; simp only [List.map_cons, List.sum_cons, List.length_cons, List.length_nil] at h2 ⊢; omega
theorem fWords_len : ∀ (ws : List (List Part)) (x : Wr), (fWords x ws).out.length ≤ x.out.length + 32 * greatWords ws
 | [], x => by simp [fWords, greatWords]
 | w :: ws, x => by
  have h1 := fWords_len ws ((x.put [32]).word w)
  have h2 := word_len (x.put [32]) w
  rw [put_len] at h2
  rw [fWords]; simp only [greatWords, List.map_cons, List.sum_cons, List.length_cons, List.length_nil] at h1 h2 ⊢; omega
theorem cWords_len : ∀ (ws : List (List Part)) (x : Wr), (cWords x ws).out.length ≤ x.out.length + 32 * greatWords ws
 | [], x => by simp [cWords, greatWords]
 | w :: ws, x => by
  have h1 := cWords_len ws (x.word w)
  have h2 := word_len x w
  rw [cWords]; simp only [greatWords, List.map_cons, List.sum_cons, List.length_cons] at h1 ⊢; omega
theorem pWords_len : ∀ (ws : List (List Part)) (n : Nat) (x : Wr), (pWords n x ws).out.length ≤ x.out.length + 32 * greatWords ws
 | [], n, x => by simp [pWords, greatWords]
 | w :: ws, n, x => by
  have h1 := pWords_len ws (n + 1) ((if 0 < n then x.put [124] else x).word w)
  have h2 := word_len (if 0 < n then x.put [124] else x) w
  have h3 : (if 0 < n then x.put [124] else x).out.length ≤ x.out.length + 1 := by split <;> simp [put_len]
  rw [pWords]; simp only [greatWords, List.map_cons, List.sum_cons, List.length_cons] at h1 ⊢; omega
theorem get_le (os : List Bytes) (k : Nat) : ((os[k]?).getD []).length ≤ ((os.drop k).map List.length).sum ∧ ((os.drop (k + 1)).map List.length).sum + ((os[k]?).getD []).length = ((os.drop k).map List.length).sum := by
 rcases Nat.lt_or_ge k os.length with h | h
 ·rw [List.drop_eq_getElem_cons h, List.getElem?_eq_getElem h]
  simp only [List.map_cons, List.sum_cons, Option.getD_some]; omega
 ·rw [List.drop_eq_nil_of_le h, List.drop_eq_nil_of_le (by omega), List.getElem?_eq_none h]; simp
theorem op_len (x : Wr) (n : Nat) (os : List Bytes) : (x.op n os).out.length + ((os.drop n).map List.length).sum ≤ x.out.length + 2 + ((os.drop (n - 1)).map List.length).sum := by
 have h := get_le os (n - 1)
 unfold Wr.op
 split
 ·rename_i hc
  have : n - 1 + 1 = n := by
   simp only [Bool.and_eq_true, decide_eq_true_eq] at hc
   omega
  rw [this] at h
  rw [put_len]
  simp only [List.length_append, List.length_cons, List.length_nil]
  omega
 ·cases n with
  | zero => simp
  | succ n =>
   simp only [Nat.add_sub_cancel] at h ⊢
   omega
mutual
theorem wLists_len : ∀ (ls : List Lst) (x : Wr), (wLists x ls).out.length ≤ x.out.length + 64 * greatLs ls
 | [], x => by simp [wLists, greatLs]
 | l :: ls, x => by
  have h1 := wLists_len ls ((wList x l).put [10])
  have h2 := wList_len l x
  rw [put_len] at h1
  rw [wLists, greatLs]; simp only [List.length_cons, List.length_nil] at h1; omega
theorem wLists0_len : ∀ (ls : List Lst) (x : Wr), (wLists0 x ls).out.length ≤ x.out.length + 64 * greatLs ls
 | [], x => by simp [wLists0, greatLs]
 | l :: ls, x => by
  have h1 := wLists0_len ls (wList x l)
  have h2 := wList_len l x
  rw [wLists0, greatLs]; omega
theorem wList_len : ∀ (l : Lst) (x : Wr), (wList x l).out.length ≤ x.out.length + 64 * Lst.great l
 | .mk ps os, x => by
  have h := wPipes_len ps ⟨x.out, x.bad || (os.length : Int) != (ps.length : Int) - 1⟩ os 0
  rw [wList, Lst.great]
  simp only [List.drop_zero, Nat.zero_sub] at h
  omega
theorem wPipes_len : ∀ (ps : List Pip) (x : Wr) (os : List Bytes) (n : Nat), (wPipes x os n ps).out.length ≤ x.out.length + ((os.drop (n - 1)).map List.length).sum + 64 * ps.length + 64 * greatPips ps
 | [], x, os, n => by rw [wPipes, greatPips]; simp
 | p :: ps, x, os, n => by
  have h1 := wPipes_len ps (wPipe (x.op n os) p) os (n + 1)
  have h2 := wPipe_len p (x.op n os)
  have h3 := op_len x n os
  rw [wPipes, greatPips]
  simp only [Nat.add_sub_cancel, List.length_cons] at h1 ⊢
  omega
theorem wPipe_len : ∀ (p : Pip) (x : Wr), (wPipe x p).out.length ≤ x.out.length + 2 + 64 * Pip.great p
 | .mk ng cs, x => by
  have h1 := wCmds_len cs (if ng then x.put [33, 32] else x) 0
  have h2 : (if ng then x.put [33, 32] else x).out.length ≤ x.out.length + 2 := by split <;> simp [put_len]
  rw [wPipe, Pip.great]; omega
theorem wCmds_len : ∀ (cs : List Cmd) (x : Wr) (n : Nat), (wCmds x n cs).out.length ≤ x.out.length + 64 * cs.length + 64 * greatCmds cs
 | [], x, n => by rw [wCmds, greatCmds]; simp
 | c :: cs, x, n => by
  have h1 := wCmds_len cs (wCmd (if 0 < n then x.put [32, 124, 32] else x) c) (n + 1)
  have h2 := wCmd_len c (if 0 < n then x.put [32, 124, 32] else x)
  have h3 : (if 0 < n then x.put [32, 124, 32] else x).out.length ≤ x.out.length + 3 := by split <;> simp [put_len]
  rw [wCmds, greatCmds]; simp only [List.length_cons]; omega
theorem wCmd_len : ∀ (c : Cmd) (x : Wr), (wCmd x c).out.length ≤ x.out.length + 64 * Cmd.great c
 | .mk k n xs ws co bo ot ca rs, x => by
  rw [wCmd, Cmd.great]
  split
  ·have h1 := sWords_len ws (rs.length + xs.length) (sAsgs rs.length (sRedirs 0 x rs) xs)
   have h2 := sAsgs_len xs rs.length (sRedirs 0 x rs)
   have h3 := sRedirs_len rs 0 x
   unfold Wr.simple; omega
  ·refine Nat.le_trans (cRedirs_len rs _) ?_
   have hco := wLists_len co
   have hbo := wLists_len bo
   have hot := wLists_len ot
   split
   ·have := hbo (x.put [123, 10]); simp only [put_len, List.length_cons, List.length_nil] at this ⊢; omega
   ·split
    ·have := hbo (x.put [40, 10]); simp only [put_len, List.length_cons, List.length_nil] at this ⊢; omega
    ·split
     ·have a1 := hco (x.put [105, 102, 10])
      have a2 := hbo ((wLists (x.put [105, 102, 10]) co).put [116, 104, 101, 110, 10])
      have a3 := hot ((wLists ((wLists (x.put [105, 102, 10]) co).put [116, 104, 101, 110, 10]) bo).put [101, 108, 115, 101, 10])
      split
      ·simp only [put_len, List.length_cons, List.length_nil] at a1 a2 a3 ⊢; omega
      ·simp only [put_len, List.length_cons, List.length_nil] at a1 a2 a3 ⊢; omega
     ·split
      ·have a1 := hco (x.put [119, 104, 105, 108, 101, 10])
       have a2 := hbo ((wLists (x.put [119, 104, 105, 108, 101, 10]) co).put [100, 111, 10])
       simp only [put_len, List.length_cons, List.length_nil] at a1 a2 ⊢; omega
      ·split
       ·have a1 := hco (x.put [117, 110, 116, 105, 108, 10])
        have a2 := hbo ((wLists (x.put [117, 110, 116, 105, 108, 10]) co).put [100, 111, 10])
        simp only [put_len, List.length_cons, List.length_nil] at a1 a2 ⊢; omega
       ·split
        ·have a1 := fWords_len ws (x.put ([102, 111, 114, 32] ++ (n ++ [32, 105, 110])))
         have a2 := hbo (((fWords (x.put ([102, 111, 114, 32] ++ (n ++ [32, 105, 110]))) ws).put [10]).put [100, 111, 10])
         simp only [put_len, List.length_cons, List.length_nil, List.length_append] at a1 a2 ⊢; omega
        ·split
         ·have a1 := cWords_len ws (x.put [99, 97, 115, 101, 32])
          have a2 := wCases_len ca ((cWords (x.put [99, 97, 115, 101, 32]) ws).put [32, 105, 110, 10])
          simp only [put_len, List.length_cons, List.length_nil] at a1 a2 ⊢; omega
         ·split
          ·have a1 := wLists0_len bo (x.put (n ++ [40, 41, 32]))
           simp only [put_len, List.length_cons, List.length_nil, List.length_append] at a1 ⊢; omega
          ·simp only; omega
theorem wCases_len : ∀ (cs : List Cas) (x : Wr), (wCases x cs).out.length ≤ x.out.length + 64 * cs.length + 64 * greatCas cs
 | [], x => by rw [wCases, greatCas]; simp
 | c :: cs, x => by
  have h1 := wCases_len cs (wCase x c)
  have h2 := wCase_len c x
  rw [wCases, greatCas]; simp only [List.length_cons]; omega
theorem wCase_len : ∀ (c : Cas) (x : Wr), (wCase x c).out.length ≤ x.out.length + 64 + 64 * Cas.great c
 | .mk ps b, x => by
  have h1 := pWords_len ps 0 (x.put [40])
  have h2 := wLists_len b ((pWords 0 (x.put [40]) ps).put [41, 10])
  rw [wCase, Cas.great]
  simp only [put_len, List.length_cons, List.length_nil] at h1 h2 ⊢; omega
end
end Go.Proofs.YtdfnkmiabmjolaaGreatDoor
namespace Go.Proofs.YtdfnkmiabmjolaaGreatDoor
open Go.RowKit
theorem row_rd {w : World} {g : Nat} {cs : List Value} {t : TypeId} {S : Nat → Prop} (h : w.heap[g]? = some (.cells cs.toArray t)) (hS : S g) : Rd w S (some ⟨g, 0, none⟩) cs := by
 intro j u hj
 refine ⟨g, 0, rfl, hS, ?_⟩
 rw [Nat.zero_add, row_cells h j]
 simpa using hj
def ParsAt (w : World) (g : Nat) (s : ByteArray) (at_ deep : Int) : Prop := w.heap[g]? = some (.cells #[.string s, .int .i64 at_, .int .i64 deep] 85 (0, 0))
theorem ParsAt.cells {w : World} {g : Nat} {s : ByteArray} {a d : Int} (h : ParsAt w g s a d) :
  w.cell? ⟨g, 0, none⟩ = some (.string s) ∧ w.cell? ⟨g, 1, none⟩ = some (.int .i64 a) ∧ w.cell? ⟨g, 2, none⟩ = some (.int .i64 d) ∧ w.frozen? ⟨g, 1, none⟩ = false ∧ w.frozen? ⟨g, 2, none⟩ = false ∧ g < w.heap.size := by
 unfold ParsAt at h
 refine ⟨?_, ?_, ?_, ?_, ?_, (Array.getElem?_eq_some_iff.1 h).1⟩
 ·rw [cell_of_row _ _ _ _ _ _ h]; rfl
 ·rw [cell_of_row _ _ _ _ _ _ h]; rfl
 ·rw [cell_of_row _ _ _ _ _ _ h]; rfl
 ·simp [World.frozen?, h]
 ·simp [World.frozen?, h]
theorem ParsAt.at' {w : World} {g : Nat} {s : ByteArray} {a d : Int} (h : ParsAt w g s a d) (a' : Int) : ParsAt (w.setCell ⟨g, 1, none⟩ (.int .i64 a')) g s a' d := by
 unfold ParsAt at *
 simp [World.setCell, Array.getElem?_modify, h]
theorem ParsAt.deep' {w : World} {g : Nat} {s : ByteArray} {a d : Int} (h : ParsAt w g s a d) (d' : Int) : ParsAt (w.setCell ⟨g, 2, none⟩ (.int .i64 d')) g s a d' := by
 unfold ParsAt at *
 simp [World.setCell, Array.getElem?_modify, h]
theorem ParsAt.chg {B : Nat → Prop} {w w' : World} {g : Nat} {s : ByteArray} {a d : Int} (h : ParsAt w g s a d) (hc : Chg B w w') (hn : ¬ B g) : ParsAt w' g s a d := by
 have hl := h.cells.2.2.2.2.2
 unfold ParsAt at *
 rw [hc.block g hl hn]; exact h
theorem ParsAt.drewN {w : World} {g : Nat} {s : ByteArray} {a d : Int} (h : ParsAt w g s a d) (n : Nat) : ParsAt (w.drewN n) g s a d := h
def ParsR (w : World) (g : Nat) (s : ByteArray) (r : Bytes) (d : Int) : Prop := ∃ a : Nat, a ≤ s.size ∧ r = s.data.toList.drop a ∧ ParsAt w g s a d
theorem ParsR.chg {B : Nat → Prop} {w w' : World} {g : Nat} {s : ByteArray} {r : Bytes} {d : Int} (h : ParsR w g s r d) (hc : Chg B w w') (hn : ¬ B g) : ParsR w' g s r d := by
 obtain ⟨a, h1, h2, h3⟩ := h
 exact ⟨a, h1, h2, h3.chg hc hn⟩
theorem ParsR.drewN {w : World} {g : Nat} {s : ByteArray} {r : Bytes} {d : Int} (h : ParsR w g s r d) (n : Nat) : ParsR (w.drewN n) g s r d := h
theorem ParsR.lt {w : World} {g : Nat} {s : ByteArray} {r : Bytes} {d : Int} (h : ParsR w g s r d) : g < w.heap.size := by
 obtain ⟨a, _, _, h⟩ := h
 exact h.cells.2.2.2.2.2
theorem ParsR.len {w : World} {g : Nat} {s : ByteArray} {r : Bytes} {d : Int} (h : ParsR w g s r d) : r.length ≤ s.size := by
 obtain ⟨a, _, rfl, _⟩ := h
 rw [drop_len]; omega
def faultS (k : Nat) (c : Int) : List PanicEntry := [{ v := .iface 82 (.agg #[.int .i64 k, .int .i64 c]), recovered := false }]
def PPost {α : Type} (w : World) (g : Nat) (s : ByteArray) (d : Int) (R : Rs α) (val : α → Value → World → Prop) (e : Ending) (w' : World) : Prop :=
 match R with
 | .ok a rest => ∃ v, e = .returned v ∧ val a v w' ∧ ParsR w' g s rest d ∧ Chg (· = g) w w'
 | .err left c => ∃ k : Nat, k ≤ s.size ∧ left = s.size - k ∧ e = .panicked (faultS k c) ∧ Chg (· = g) w w'
def Void (w : World) (g : Nat) (s : ByteArray) (r : Bytes) (d : Int) (e : Ending) (w' : World) : Prop := e = .returned (.tuple #[]) ∧ ParsR w' g s r d ∧ Chg (· = g) w w'
set_option maxRecDepth 100000 in
set_option maxHeartbeats 1000000 in
theorem failS_calls (g : Nat) (s : ByteArray) (a d : Int) (k : Nat) (e : Int) (w : World) (h : ParsAt w g s a d) (hk : k ≤ s.size) :
  Calls Tryz.prog 36 #[.pointer (some ⟨g, 0, none⟩), .int .i64 k, .int .i64 e] w
   (fun e' w' => PPost w g s d (failP (α := Unit) (s.size - k) e) (fun _ _ _ => True) e' w' ∧ w = w') := by
 obtain ⟨h0, _, _, _, _, _⟩ := h.cells
 by_cases h1 : k = s.size
 ·have q1 : (s.size : Int) ≤ (k : Int) := by omega
  have q1' : s.size ≤ k := by omega
  cases h2 : e == 61
  case true =>
   have HF : Hid (failP (α := Unit) (s.size - k) e = .err 0 62) := Lib.hid (by rw [failP, h2, show s.size - k = 0 by omega]; rfl)
   rw [HF.out]
   clear h1
   go_enter Tryz.func36, Tryz.ntmps36
   go_wp2
   exact ⟨rfl, ⟨s.size, Nat.le_refl _, by omega, rfl, Chg.refl _ _⟩, rfl⟩
  case false =>
   have HF : Hid (failP (α := Unit) (s.size - k) e = .err (s.size - k) e) := Lib.hid (by rw [failP, h2, Bool.and_false]; rfl)
   rw [HF.out]
   clear h1
   go_enter Tryz.func36, Tryz.ntmps36
   go_wp2
   exact ⟨rfl, ⟨k, hk, rfl, rfl, Chg.refl _ _⟩, rfl⟩
 ·have q1 : decide ((s.size : Int) ≤ (k : Int)) = false := by rw [decide_eq_false_iff_not]; omega
  have q1' : decide (s.size ≤ k) = false := by rw [decide_eq_false_iff_not]; omega
  have HF : Hid (failP (α := Unit) (s.size - k) e = .err (s.size - k) e) := Lib.hid (by rw [failP, show (s.size - k == 0) = false by simp; omega]; rfl)
  rw [HF.out]
  clear h1
  go_enter Tryz.func36, Tryz.ntmps36
  go_wp2
  exact ⟨rfl, ⟨k, hk, rfl, rfl, Chg.refl _ _⟩, rfl⟩
theorem blanks_sp (c : UInt8) (r : Bytes) (h : (c == 32 || c == 9) = true) : blanks (c :: r) = blanks r := by
 cases r with
 | nil => simp only [blanks, h, Bool.true_or, if_true]
 | cons d r => simp only [blanks, h, if_true]
theorem blanks_hash (r : Bytes) : blanks (35 :: r) = r.dropWhile (fun d => !(d == 10)) := by
 cases r with
 | nil => rfl
 | cons d r => rfl
theorem blanks_join (r : Bytes) : blanks (92 :: 10 :: r) = blanks r := rfl
theorem blanks_stop (c : UInt8) (r : Bytes) (h : (c == 32 || c == 9) = false) (h2 : (c == 35) = false) (h3 : (c == 92 && r.head? == some 10) = false) : blanks (c :: r) = c :: r := by
 cases r with
 | nil => simp only [blanks, h, h2, Bool.or_false, Bool.false_eq_true, if_false]
 | cons d r =>
  have h4 : (c == 92 && d == 10) = false := by simpa using h3
  simp only [blanks, h, h2, h4, Bool.false_eq_true, if_false]
theorem hasPrefix_join (c : UInt8) (r : Bytes) : Lib.hasPrefix (c :: r) [92, 10] = (c == 92 && r.head? == some 10) := by
 unfold Lib.hasPrefix
 cases r with
 | nil => simp [List.isPrefixOf]
 | cons d r =>
  rw [Bool.eq_iff_iff]
  simp [List.isPrefixOf]
  constructor <;> (rintro ⟨rfl, rfl⟩; exact ⟨rfl, rfl⟩)
theorem prefix_calls (s p : ByteArray) (b : Bool) (w : World) (hb : Lib.hasPrefix s.data.toList p.data.toList = b) :
  Calls Tryz.prog 70 #[.string s, .string p] w fun e w' => e = .returned (.bool b) ∧ w' = w := by
 have h := Tryz.strings_HasPrefix s p w
 rw [hb] at h
 exact h
def BlRel (w : World) (g : Nat) (s : ByteArray) (d : Int) (R : Bytes) (n : Nat) (wr : World) : Prop :=
 ∃ a : Nat, a + n = s.size ∧ ParsAt wr g s a d ∧ Hid (blanks (s.data.toList.drop a) = R) ∧ Chg (· = g) w wr
theorem BlRel.next {w wr : World} {g : Nat} {s : ByteArray} {d : Int} {R : Bytes} {n a m : Nat} (k : Nat) (v : Value) (hv : v = .int .i64 ((a + k : Nat) : Int)) (hn : a + k + n = s.size) (hA : ParsAt wr g s a d) (hC : Chg (· = g) w wr)
  (hR : blanks (s.data.toList.drop (a + k)) = R) : BlRel w g s d R n ((wr.drewN m).setCell ⟨g, 1, none⟩ v) := by
 subst hv
 exact ⟨a + k, hn, (hA.drewN m).at' _, Lib.hid hR, (hC.drewN m).setCell (fun _ => rfl) _⟩
set_option maxRecDepth 100000 in
set_option maxHeartbeats 4000000 in
theorem blanks_calls (g : Nat) (s : ByteArray) (r : Bytes) (d : Int) (w : World) (h : ParsR w g s r d) (hs : s.size ≤ 8192) :
  Calls Tryz.prog 53 #[.pointer (some ⟨g, 0, none⟩)] w (Void w g s (blanks r) d) := by
 obtain ⟨a, ha, rfl, hA⟩ := h
 generalize hR : blanks (s.data.toList.drop a) = R
 have HR := Lib.hid hR; clear hR
 go_enter Tryz.func53, Tryz.ntmps53
 go_wp2
 go_loopg [] (s.size - a) (fun n wr => BlRel w g s d R n wr)
 case atStart => exact ⟨a, by omega, hA, HR, Chg.refl _ _⟩
 case round =>
  clear hA HR ha
  obtain ⟨a, ha, hA, HR, hC⟩ := hrel
  obtain ⟨h0, h1, h2, f1, _, hgl⟩ := ParsAt.cells hA
  by_cases hlt : a < s.size
  ·have p0 : (0 : Int) ≤ (a : Int) := by omega
   have p1 : (a : Int) < (s.size : Int) := by omega
   have p2 : (a : Int) ≤ (s.size : Int) := by omega
   have HD := Lib.hid (byte_drop s a hlt)
   have hq32 : ((s[a].toNat : Int) == 32) = (s[a] == 32) := byte_eqn s[a] 32 (by decide)
   have hq9 : ((s[a].toNat : Int) == 9) = (s[a] == 9) := byte_eqn s[a] 9 (by decide)
   have hq35 : ((s[a].toNat : Int) == 35) = (s[a] == 35) := byte_eqn s[a] 35 (by decide)
   cases h32 : s[a] == 32
   case true =>
    rw [h32] at hq32
    have HB : Hid (blanks (s.data.toList.drop (a + 1)) = R) := Lib.hid (by rw [← HR.out, HD.out, blanks_sp _ _ (by rw [h32]; rfl)])
    clear hq9 hq35 h32
    go_wp2
    go_quiet (fail)
    go_wp2
    go_quiet (fail)
    go_wp2
    go_roundg (gk - 1)
    case measure => omega
    case rel => exact BlRel.next 1 _ (by go_num) (by omega) hA hC HB.out
   case false =>
    rw [h32] at hq32
    cases h9 : s[a] == 9
    case true =>
     rw [h9] at hq9
     have HB : Hid (blanks (s.data.toList.drop (a + 1)) = R) := Lib.hid (by rw [← HR.out, HD.out, blanks_sp _ _ (by rw [h9, Bool.or_true])])
     clear hq35 h32 h9
     go_wp2
     go_quiet (fail)
     go_wp2
     go_quiet (fail)
     go_wp2
     go_quiet (fail)
     go_wp2
     go_roundg (gk - 1)
     case measure => omega
     case rel => exact BlRel.next 1 _ (by go_num) (by omega) hA hC HB.out
    case false =>
     rw [h9] at hq9
     have HX := Lib.hid (Lib.extract_to_end s a)
     have hHP : Lib.hasPrefix (s.extract a s.size).data.toList (⟨#[92, 10]⟩ : ByteArray).data.toList = (s[a] == 92 && (s.data.toList.drop (a + 1)).head? == some 10) := by
      rw [HX.out, HD.out]; exact hasPrefix_join _ _
     cases hj : (s[a] == 92 && (s.data.toList.drop (a + 1)).head? == some 10)
     case true =>
      rw [hj] at hHP
      have hP := fun w => prefix_calls _ _ true w hHP
      rw [Bool.and_eq_true] at hj
      have hl1 : a + 1 < s.size := by
       rcases Nat.lt_or_ge (a + 1) s.size with h | h
       ·exact h
       ·rw [drop_end s (a + 1) (by omega)] at hj; simp at hj
      have HB : Hid (blanks (s.data.toList.drop (a + 2)) = R) := Lib.hid (by
       rw [← HR.out, HD.out]
       have h1 := byte_drop s (a + 1) hl1
       rw [h1] at hj
       rw [h1, show s[a] = 92 by simpa using hj.1, show s[a + 1] = 10 by simpa using hj.2, blanks_join])
      clear hq35 h32 h9 hj hHP
      go_wp2
      go_quiet (fail)
      go_wp2
      go_quiet (fail)
      go_wp2
      go_quiet (fail)
      go_wp2
      go_quiet ((go_at_call 70; exact (hP _).mono (fun _ _ hh => ⟨hh.1, _, hh.2⟩)))
      go_wp2
      go_roundg (gk - 2)
      case measure => omega
      case rel => exact BlRel.next 2 _ (by go_num) (by omega) hA hC HB.out
     case false =>
      rw [hj] at hHP
      have hP := fun w => prefix_calls _ _ false w hHP
      cases h35 : s[a] == 35
      case true =>
       rw [h35] at hq35
       have HB : Hid ((s.data.toList.drop a).dropWhile (fun d => !(d == 10)) = R) := Lib.hid (by
        rw [← HR.out, HD.out, show s[a] = 35 by simpa using h35, blanks_hash]; rfl)
       clear h32 h9 hj hHP
       go_wp2
       go_quiet (fail)
       go_wp2
       go_quiet (fail)
       go_wp2
       go_quiet (fail)
       go_wp2
       go_quiet ((go_at_call 70; exact (hP _).mono (fun _ _ hh => ⟨hh.1, _, hh.2⟩)))
       go_wp2
       go_quiet (fail)
       go_wp2
       go_loopg [] (s.size - a) (fun n wr => ∃ b : Nat, a ≤ b ∧ b + n = s.size ∧ ParsAt wr g s b d ∧ Hid ((s.data.toList.drop b).dropWhile (fun d => !(d == 10)) = R) ∧ Chg (· = g) w wr)
       case atStart => exact ⟨a, Nat.le_refl _, by omega, hA, HB, ((((hC.drewN _).drewN _).drewN _).drewN _).drewN _⟩
       case round =>
        clear hA hC h0 h1 h2 f1 hgl HB
        obtain ⟨b, hab, hb, hA, HB, hC⟩ := hrel
        obtain ⟨h0, h1, h2, f1, _, hgl⟩ := ParsAt.cells hA
        by_cases hlb : b < s.size
        ·have r0 : (0 : Int) ≤ (b : Int) := by omega
         have r1 : (b : Int) < (s.size : Int) := by omega
         have HDb := Lib.hid (byte_drop s b hlb)
         have hq10 : ((s[b].toNat : Int) == 10) = (s[b] == 10) := byte_eqn s[b] 10 (by decide)
         cases h10 : s[b] == 10
         case true =>
          rw [h10] at hq10
          have hn10 : ((s[b].toNat : Int) != 10) = false := by rw [bne, hq10]; rfl
          have hne : a ≠ b := by
           rintro rfl
           rw [show s[a] = 35 by simpa using h35] at h10
           exact absurd h10 (by decide)
          have HB2 : Hid (blanks (s.data.toList.drop b) = R) := Lib.hid (by
           rw [← HB.out, HDb.out, show s[b] = 10 by simpa using h10]
           rw [blanks_stop _ _ (by decide) (by decide) (by rfl)]
           rfl)
          clear h10 h35
          go_wp2
          go_quiet (fail)
          go_wp2
          go_roundg (s.size - b)
          case measure => omega
          case rel => exact ⟨b, by omega, hA, HB2, hC.drewN _⟩
         case false =>
          rw [h10] at hq10
          have hn10 : ((s[b].toNat : Int) != 10) = true := by rw [bne, hq10]; rfl
          have HB2 : Hid ((s.data.toList.drop (b + 1)).dropWhile (fun d => !(d == 10)) = R) := Lib.hid (by
           rw [← HB.out, HDb.out, List.dropWhile_cons, h10]; rfl)
          clear h10 h35
          go_wp2
          go_quiet (fail)
          go_wp2
          go_roundg (gk - 1)
          case measure => omega
          case rel => exact ⟨b + 1, by omega, by omega, (hA.drewN nq).at' ((b + 1 : Nat) : Int), HB2, (hC.drewN nq).setCell (fun _ => rfl) _⟩
        ·have r1 : decide ((b : Int) < (s.size : Int)) = false := by rw [decide_eq_false_iff_not]; omega
         have r1' : decide (b < s.size) = false := by rw [decide_eq_false_iff_not]; omega
         have HB2 : Hid (blanks (s.data.toList.drop b) = R) := Lib.hid (by
          rw [← HB.out, drop_end s b hlb]; rfl)
         clear h35
         go_wp2
         go_quiet (fail)
         go_wp2
         go_roundg (s.size - b)
         case measure => omega
         case rel => exact ⟨b, by omega, hA, HB2, hC.drewN _⟩
      case false =>
       rw [h35] at hq35
       have HB : Hid (s.data.toList.drop a = R) := Lib.hid (by
        rw [← HR.out, HD.out, blanks_stop _ _ (by rw [h32, h9]; rfl) h35 hj])
       clear h32 h9 hj hHP h35
       go_wp2
       go_quiet (fail)
       go_wp2
       go_quiet (fail)
       go_wp2
       go_quiet (fail)
       go_wp2
       go_quiet ((go_at_call 70; exact (hP _).mono (fun _ _ hh => ⟨hh.1, _, hh.2⟩)))
       go_wp2
       go_quiet (fail)
       go_wp2
       refine bodyPost_ret (v := .tuple #[]) (by simp [results, Tryz.results53, go_sem]) rfl ⟨rfl, ⟨a, by omega, HB.out.symm, hA⟩, ?_⟩
       exact ((((hC.drewN _).drewN _).drewN _).drewN _).drewN _
  ·have p1 : decide ((a : Int) < (s.size : Int)) = false := by rw [decide_eq_false_iff_not]; omega
   have p1' : decide (a < s.size) = false := by rw [decide_eq_false_iff_not]; omega
   have HB : Hid (s.data.toList.drop a = R) := Lib.hid (by rw [← HR.out, drop_end s a hlt]; rfl)
   go_wp2
   go_quiet (fail)
   go_wp2
   refine bodyPost_ret (v := .tuple #[]) (by simp [results, Tryz.results53, go_sem]) rfl ⟨rfl, ⟨a, by omega, HB.out.symm, hA⟩, ?_⟩
   exact hC.drewN _
theorem dropWhile_le {α : Type} (p : α → Bool) : ∀ l : List α, (l.dropWhile p).length ≤ l.length
 | [] => Nat.le_refl _
 | a :: l => by
  rw [List.dropWhile_cons]
  split
  ·have := dropWhile_le p l; simp; omega
  ·exact Nat.le_refl _
theorem blanks_len : ∀ (n : Nat) (r : Bytes), r.length ≤ n → (blanks r).length ≤ r.length
 | _, [], _ => Nat.le_refl _
 | 0, _ :: _, h => by simp at h
 | n + 1, [c], _ => by simp only [blanks]; split <;> simp
 | n + 1, c :: d :: r, h => by
  simp only [List.length_cons] at h
  have h1 := blanks_len n (d :: r) (by simp; omega)
  have h2 := blanks_len n r (by omega)
  have h3 := dropWhile_le (fun x : UInt8 => !(x == 10)) (d :: r)
  simp only [blanks, List.length_cons] at h1 h3 ⊢
  split
  ·omega
  split
  ·omega
  split
  ·omega
  ·simp
theorem blanks_le (r : Bytes) : (blanks r).length ≤ r.length := blanks_len _ r (Nat.le_refl _)
def lnF (m : Nat) (b : Bytes) : Bytes := match b with | [] => [] | c :: r' => if c == 10 then linesF m r' else c :: r'
theorem linesF_ln (m : Nat) (r : Bytes) : linesF (m + 1) r = lnF m (blanks r) := by
 rfl
theorem ParsR.at' {w : World} {g : Nat} {s : ByteArray} {d : Int} {a : Int} (h : ParsAt w g s a d) (k : Nat) (hk : k ≤ s.size) (v : Value) (hv : v = .int .i64 (k : Nat)) : ParsR (w.setCell ⟨g, 1, none⟩ v) g s (s.data.toList.drop k) d := by
 subst hv
 exact ⟨k, hk, rfl, h.at' _⟩
set_option maxRecDepth 100000 in
set_option maxHeartbeats 2000000 in
theorem lines_calls (g : Nat) (s : ByteArray) (r : Bytes) (d : Int) (w : World) (h : ParsR w g s r d) (hs : s.size ≤ 8192) :
  Calls Tryz.prog 34 #[.pointer (some ⟨g, 0, none⟩)] w (Void w g s (lines r) d) := by
 have hlen := blanks_le r
 have hR0 : lines r = lnF r.length (blanks r) := linesF_ln _ _
 rw [hR0]
 generalize hR : lnF r.length (blanks r) = R
 have HR := Lib.hid hR; clear hR hR0
 go_enter Tryz.func34, Tryz.ntmps34
 go_wp2_with fail
 refine Calls.mono (blanks_calls g s r d w h hs) ?_
 rintro e w1 ⟨rfl, hP, hC⟩
 go_wp2_with fail
 go_loopg [] r.length (fun n wr => ∃ b : Bytes, ParsR wr g s b d ∧ Hid (lnF n b = R) ∧ b.length ≤ n ∧ Chg (· = g) w wr)
 case atStart => exact ⟨blanks r, hP, HR, hlen, hC⟩
 case round =>
  clear hP hC HR hlen h
  obtain ⟨b, ⟨a, ha, rfl, hA⟩, HF, hbn, hC⟩ := hrel
  obtain ⟨h0, h1, h2, f1, _, hgl⟩ := ParsAt.cells hA
  rw [drop_len] at hbn
  by_cases hlt : a < s.size
  ·have p0 : (0 : Int) ≤ (a : Int) := by omega
   have p1 : (a : Int) < (s.size : Int) := by omega
   have HD := Lib.hid (byte_drop s a hlt)
   have hq10 : ((s[a].toNat : Int) == 10) = (s[a] == 10) := byte_eqn s[a] 10 (by decide)
   cases h10 : s[a] == 10
   case true =>
    rw [h10] at hq10
    obtain ⟨gn, rfl⟩ : ∃ n, gk = n + 1 := ⟨gk - 1, by omega⟩
    have HF2 : Hid (lnF gn (blanks (s.data.toList.drop (a + 1))) = R) := Lib.hid (by rw [← HF.out, HD.out, lnF, if_pos h10, linesF_ln])
    have hlen2 := blanks_le (s.data.toList.drop (a + 1))
    rw [drop_len] at hlen2
    clear h10
    go_wp2
    go_quiet (fail)
    go_wp2_with fail
    refine Calls.mono (blanks_calls g s (s.data.toList.drop (a + 1)) d _ (ParsR.at' (hA.drewN _) (a + 1) (by omega) _ (by go_num)) hs) ?_
    rintro e w2 ⟨rfl, hP2, hC2⟩
    have hC3 : Chg (· = g) w w2 := ((hC.drewN _).setCell (fun _ => rfl) _).trans hC2 (fun _ h _ => h)
    go_wp2
    go_roundg gn
    case measure => omega
    case rel => exact ⟨_, hP2, HF2, by omega, hC3⟩
   case false =>
    rw [h10] at hq10
    have HF2 : Hid (s.data.toList.drop a = R) := Lib.hid (by rw [← HF.out, HD.out, lnF, if_neg (by rw [h10]; simp)])
    clear h10
    go_wp2
    go_quiet (fail)
    go_wp2
    go_end0
    exact ⟨rfl, ⟨a, ha, HF2.out.symm, hA⟩, hC.drewN _⟩
  ·have p1 : decide ((a : Int) < (s.size : Int)) = false := by rw [decide_eq_false_iff_not]; omega
   have p1' : decide (a < s.size) = false := by rw [decide_eq_false_iff_not]; omega
   have HF2 : Hid (s.data.toList.drop a = R) := Lib.hid (by rw [← HF.out, drop_end s a hlt]; rfl)
   go_wp2
   go_quiet (fail)
   go_wp2
   go_end0
   exact ⟨rfl, ⟨a, ha, HF2.out.symm, hA⟩, hC.drewN _⟩
theorem signs_drop (s : Bytes) (k : Nat) (hk : k < 14) : opL (signs.drop k) s = if (signs.getD k []).isPrefixOf s then signs.getD k [] else opL (signs.drop (k + 1)) s := by
 have h : signs.drop k = signs.getD k [] :: signs.drop (k + 1) := by
  rw [List.drop_eq_getElem_cons (show k < signs.length from hk)]
  congr 1
  simp [List.getD_eq_getElem?_getD, List.getElem?_eq_getElem (show k < signs.length from hk)]
 rw [h, opL]
set_option maxRecDepth 100000 in
set_option maxHeartbeats 2000000 in
theorem sign_calls (g : Nat) (s : ByteArray) (r : Bytes) (d : Int) (w : World) (h : ParsR w g s r d) (hs : s.size ≤ 8192) :
  Calls Tryz.prog 56 #[.pointer (some ⟨g, 0, none⟩)] w fun e w' => e = .returned (.string (bstr (sgn r))) ∧ ParsR w' g s (blanks r) d ∧ Chg (· = g) w w' := by
 unfold sgn
 have hBl := blanks_calls g s r d w h hs
 revert hBl
 generalize blanks r = b
 generalize hR : opL signs b = R
 have HR : Hid (opL (signs.drop 0) b = R) := Lib.hid hR
 clear hR
 intro hBl
 go_enter Tryz.func56, Tryz.ntmps56
 go_wp2_with fail
 refine Calls.mono hBl ?_
 clear hBl
 rintro e w1 ⟨rfl, hP, hC⟩
 have hcells : ∀ k, k < 14 → (w1.alloc (.cells #[.string ⟨#[38, 38]⟩, .string ⟨#[124, 124]⟩, .string ⟨#[59, 59]⟩, .string ⟨#[62, 62]⟩, .string ⟨#[60, 38]⟩, .string ⟨#[62, 38]⟩, .string ⟨#[10]⟩, .string ⟨#[38]⟩, .string ⟨#[124]⟩, .string ⟨#[59]⟩, .string ⟨#[60]⟩, .string ⟨#[62]⟩, .string ⟨#[40]⟩, .string ⟨#[41]⟩] 9)).cell? ⟨w1.heap.size, k, none⟩ = some (.string (bstr (signs.getD k []))) := by
  intro k hk
  rw [cell_of_row _ _ _ _ _ _ (heap_alloc_new w1 _)]
  have : k = 0 ∨ k = 1 ∨ k = 2 ∨ k = 3 ∨ k = 4 ∨ k = 5 ∨ k = 6 ∨ k = 7 ∨ k = 8 ∨ k = 9 ∨ k = 10 ∨ k = 11 ∨ k = 12 ∨ k = 13 := by omega
  rcases this with rfl | rfl | rfl | rfl | rfl | rfl | rfl | rfl | rfl | rfl | rfl | rfl | rfl | rfl <;> rfl
 have hPA : ParsR (w1.alloc (.cells #[.string ⟨#[38, 38]⟩, .string ⟨#[124, 124]⟩, .string ⟨#[59, 59]⟩, .string ⟨#[62, 62]⟩, .string ⟨#[60, 38]⟩, .string ⟨#[62, 38]⟩, .string ⟨#[10]⟩, .string ⟨#[38]⟩, .string ⟨#[124]⟩, .string ⟨#[59]⟩, .string ⟨#[60]⟩, .string ⟨#[62]⟩, .string ⟨#[40]⟩, .string ⟨#[41]⟩] 9)) g s b d := hP.chg ((Chg.refl (fun _ => False) w1).alloc _) (fun e => e)
 have hCA : Chg (· = g) w (w1.alloc (.cells #[.string ⟨#[38, 38]⟩, .string ⟨#[124, 124]⟩, .string ⟨#[59, 59]⟩, .string ⟨#[62, 62]⟩, .string ⟨#[60, 38]⟩, .string ⟨#[62, 38]⟩, .string ⟨#[10]⟩, .string ⟨#[38]⟩, .string ⟨#[124]⟩, .string ⟨#[59]⟩, .string ⟨#[60]⟩, .string ⟨#[62]⟩, .string ⟨#[40]⟩, .string ⟨#[41]⟩] 9)) := hC.alloc _
 go_wp2_with fail
 clear hP hC
 revert hCA hPA hcells
 generalize w1.alloc (.cells #[.string ⟨#[38, 38]⟩, .string ⟨#[124, 124]⟩, .string ⟨#[59, 59]⟩, .string ⟨#[62, 62]⟩, .string ⟨#[60, 38]⟩, .string ⟨#[62, 38]⟩, .string ⟨#[10]⟩, .string ⟨#[38]⟩, .string ⟨#[124]⟩, .string ⟨#[59]⟩, .string ⟨#[60]⟩, .string ⟨#[62]⟩, .string ⟨#[40]⟩, .string ⟨#[41]⟩] 9) = W
 intro hcells hPA hCA
 generalize w1.heap.size = B at *
 go_loopg [9] 14 (fun n iv wr => ∃ (k m : Nat), k + n = 14 ∧ iv = .int .i64 k ∧ Hid (opL (signs.drop k) b = R) ∧ wr = W.drewN m)
 case atStart => exact ⟨0, 0, rfl, by go_num, HR, rfl⟩
 case round =>
  clear HR
  obtain ⟨k, m, hk, rfl, HK, rfl⟩ := hrel
  obtain ⟨a, ha, rfl, hA⟩ := hPA
  by_cases hlt : k < 14
  ·obtain ⟨h0, h1, h2, f1, _, hgl⟩ := ParsAt.cells hA
   have hc := hcells k hlt
   have p0 : (0 : Int) ≤ (k : Int) := by omega
   have p1 : (k : Int) < 14 := by omega
   have p2 : (0 : Int) ≤ (a : Int) := by omega
   have p3 : (a : Int) ≤ (s.size : Int) := by omega
   clear hcells
   have HD := Lib.hid (signs_drop (s.data.toList.drop a) k hlt)
   generalize signs.getD k [] = o at *
   cases hpre : o.isPrefixOf (s.data.toList.drop a)
   case false =>
    have hP := fun w => prefix_calls (s.extract a s.size) (bstr o) false w (by rw [Lib.extract_to_end, bstr_toList]; exact hpre)
    have HK2 : Hid (opL (signs.drop (k + 1)) (s.data.toList.drop a) = R) := Lib.hid (by rw [← HK.out, HD.out, hpre]; rfl)
    clear hpre
    go_wp2
    go_quiet ((go_at_call 70; exact (hP _).mono (fun _ _ hh => ⟨hh.1, _, hh.2⟩)))
    go_wp2
    go_roundg (gk - 1)
    case measure => omega
    case rel => exact ⟨k + 1, m + nq, by omega, by go_num, HK2, by first | rfl | rw [World.drewN_drewN]⟩
   case true =>
    have hP := fun w => prefix_calls (s.extract a s.size) (bstr o) true w (by rw [Lib.extract_to_end, bstr_toList]; exact hpre)
    have HK2 : Hid (R = o) := Lib.hid (by rw [← HK.out, HD.out, hpre]; rfl)
    clear hpre
    go_wp2
    go_quiet ((go_at_call 70; exact (hP _).mono (fun _ _ hh => ⟨hh.1, _, hh.2⟩)))
    go_wp2
    go_ret
    exact ⟨by rw [HK2.out]; rfl, ⟨a, ha, rfl, hA⟩, (hCA.drewN _).drewN _⟩
  ·have p1 : decide ((k : Int) < 14) = false := by rw [decide_eq_false_iff_not]; omega
   have HK2 : Hid (R = []) := Lib.hid (by rw [← HK.out, show k = 14 by omega]; rfl)
   clear hcells
   go_wp2
   go_ret
   exact ⟨by rw [HK2.out]; rfl, ⟨a, ha, rfl, hA⟩, hCA.drewN _⟩
theorem str_eq (a b : Bytes) : ((bstr a).toList == (bstr b).toList) = (a == b) := by rw [ByteArray.toList_eq, ByteArray.toList_eq, bstr_toList, bstr_toList]
theorem sgn_le (r : Bytes) : (sgn r).length ≤ (blanks r).length := opL_prefix _ _
theorem ParsR.pos {w : World} {g : Nat} {s : ByteArray} {r : Bytes} {d : Int} (h : ParsR w g s r d) : ∃ a : Nat, a ≤ s.size ∧ r = s.data.toList.drop a ∧ r.length = s.size - a ∧ ParsAt w g s a d := by
 obtain ⟨a, h1, rfl, h2⟩ := h
 exact ⟨a, h1, rfl, drop_len _ _, h2⟩
set_option maxRecDepth 100000 in
set_option maxHeartbeats 2000000 in
theorem take_calls (g : Nat) (s : ByteArray) (r : Bytes) (d : Int) (t : Bytes) (w : World) (h : ParsR w g s r d) (hs : s.size ≤ 8192) :
  Calls Tryz.prog 88 #[.pointer (some ⟨g, 0, none⟩), .string (bstr t)] w fun e w' => e = .returned (.bool (sgn r == t)) ∧ ParsR w' g s (takeR t r) d ∧ Chg (· = g) w w' := by
 have hS := sign_calls g s r d w h hs
 have hle := sgn_le r
 have hst := str_eq (sgn r) t
 unfold takeR
 revert hS hle hst
 generalize sgn r = x
 generalize blanks r = b
 intro hS hle hst
 cases hx : x == t
 case true =>
  rw [hx] at hst
  obtain rfl : x = t := by simpa using hx
  have hne : (!((bstr x).toList == (bstr x).toList)) = false := by rw [hst]; rfl
  clear hx
  simp only [if_true]
  go_enter Tryz.func88, Tryz.ntmps88
  go_wp2_with fail
  refine Calls.mono hS ?_
  rintro e w1 ⟨rfl, hP, hC⟩
  obtain ⟨a, ha, rfl, hl, hA⟩ := hP.pos
  obtain ⟨h0, h1, h2, f1, _, hgl⟩ := ParsAt.cells hA
  have hz : (bstr x).size = x.length := bstr_size x
  have HP := Lib.hid (fun v hv => ParsR.at' hA (a + x.length) (by omega) v hv)
  have HD : Hid ((s.data.toList.drop a).drop x.length = s.data.toList.drop (a + x.length)) := Lib.hid (by rw [List.drop_drop])
  have hb1 : a + x.length ≤ s.size := by omega
  clear hS hP hl hle
  go_wp2
  go_ret
  exact ⟨rfl, by rw [HD.out]; exact HP.out _ (by go_num), hC.setCell (fun _ => rfl) _⟩
 case false =>
  rw [hx] at hst
  simp only [Bool.false_eq_true, if_false]
  go_enter Tryz.func88, Tryz.ntmps88
  go_wp2_with fail
  refine Calls.mono hS ?_
  rintro e w1 ⟨rfl, hP, hC⟩
  go_wp2
  go_ret
  exact ⟨rfl, hP, hC⟩
theorem fail_here (g : Nat) (s : ByteArray) (b : Bytes) (d : Int) (e : Int) (w w1 : World) (a : Nat) (hb : b = s.data.toList.drop a) (ha : a ≤ s.size) (hA : ParsAt w1 g s a d) (hC : Chg (· = g) w w1) {α : Type} (val : α → Value → World → Prop) :
  Calls Tryz.prog 36 #[.pointer (some ⟨g, 0, none⟩), .int .i64 a, .int .i64 e] w1 (fun e' w' => (∃ c, e' = .panicked c) ∧ PPost w g s d (failS (α := α) b e) val e' w' ∧ w1 = w') := by
 subst hb
 have hl : (s.data.toList.drop a).length = s.size - a := drop_len _ _
 refine (failS_calls g s a d a e w1 hA ha).mono ?_
 rintro e' w' ⟨hp, rfl⟩
 unfold failS
 rw [hl]
 unfold failP PPost at *
 revert hp
 by_cases hh : (s.size - a == 0 && e == 61) = true
 ·rw [if_pos hh, if_pos hh]
  rintro ⟨k, h1, h2, h3, h4⟩
  exact ⟨⟨_, h3⟩, ⟨k, h1, h2, h3, hC.trans h4 (fun _ h _ => h)⟩, rfl⟩
 ·rw [if_neg hh, if_neg hh]
  rintro ⟨k, h1, h2, h3, h4⟩
  exact ⟨⟨_, h3⟩, ⟨k, h1, h2, h3, hC.trans h4 (fun _ h _ => h)⟩, rfl⟩
def isVoid (_ : Unit) (v : Value) (_ : World) : Prop := v = .tuple #[]
set_option maxRecDepth 100000 in
set_option maxHeartbeats 2000000 in
theorem want_calls (g : Nat) (s : ByteArray) (r : Bytes) (d : Int) (t : Bytes) (w : World) (h : ParsR w g s r d) (hs : s.size ≤ 8192) :
  Calls Tryz.prog 115 #[.pointer (some ⟨g, 0, none⟩), .string (bstr t)] w (PPost w g s d (wantP t r) isVoid) := by
 have hT := take_calls g s r d t w h hs
 generalize hR : wantP t r = R
 cases hx : sgn r == t
 case true =>
  have HR : Hid (R = .ok () ((blanks r).drop t.length)) := Lib.hid (by rw [← hR, wantP, if_pos hx])
  rw [takeR, if_pos hx, hx] at hT
  clear hR hx
  go_enter Tryz.func115, Tryz.ntmps115
  go_wp2_with fail
  refine Calls.mono hT ?_
  rintro e w1 ⟨rfl, hP, hC⟩
  go_wp2
  go_end0
  rw [HR.out]
  exact ⟨_, rfl, rfl, hP, hC⟩
 case false =>
  have HR : Hid (R = failS (blanks r) 61) := Lib.hid (by rw [← hR, wantP, if_neg (by rw [hx]; simp)])
  rw [takeR, if_neg (by rw [hx]; simp), hx] at hT
  clear hR hx
  go_enter Tryz.func115, Tryz.ntmps115
  go_wp2_with fail
  refine Calls.mono hT ?_
  rintro e w1 ⟨rfl, hP, hC⟩
  obtain ⟨a, ha, hr, hl, hA⟩ := hP.pos
  obtain ⟨h0, h1, h2, f1, _, hgl⟩ := ParsAt.cells hA
  have HB := Lib.hid hr
  clear hr hl hP
  go_wp2_with fail
  refine Calls.mono (fail_here g s (blanks r) d 61 w w1 a HB.out ha hA hC isVoid) ?_
  rintro e w2 ⟨⟨c, rfl⟩, hpost, _⟩
  go_wp2
  rw [HR.out]
  exact ⟨rfl, hpost⟩
def peekR (R : Rs (List Part)) : Bytes × Bytes :=
 match R with
 | .ok [.mk k q t _ _] r' => if k == 1 && !q then (t, r') else ([], [])
 | _ => ([], [])
theorem peek_R (r : Bytes) : peek r = peekR (scan (blanks r)) := rfl
def PeekEnd (w : World) (g : Nat) (s : ByteArray) (d : Int) (b : Bytes) (p : Bytes × Bytes) (e : Ending) (w' : World) : Prop :=
 ∃ n : Nat, e = .returned (.tuple #[.string (bstr p.1), .int .i64 n]) ∧ (p.1 ≠ [] → n ≤ s.size ∧ p.2 = s.data.toList.drop n) ∧ ParsR w' g s b d ∧ Chg (· = g) w w'
set_option maxRecDepth 100000 in
set_option maxHeartbeats 2000000 in
theorem peek_calls (g : Nat) (s : ByteArray) (r : Bytes) (d : Int) (w : World) (h : ParsR w g s r d) (hs : s.size ≤ 8192) :
  Calls Tryz.prog 71 #[.pointer (some ⟨g, 0, none⟩)] w (PeekEnd w g s d (blanks r) (peek r)) := by
 have hBl := blanks_calls g s r d w h hs
 have hN := scan_err (blanks r)
 rw [peek_R]
 revert hBl hN
 generalize blanks r = b
 intro hBl hN
 go_enter Tryz.func71, Tryz.ntmps71
 go_wp2_with fail
 refine Calls.mono hBl ?_
 clear hBl
 rintro e w1 ⟨rfl, hP, hC⟩
 obtain ⟨a, ha, rfl, hl, hA⟩ := hP.pos
 obtain ⟨h0, h1, h2, f1, _, hgl⟩ := ParsAt.cells hA
 have hSc := fun w => Scan_calls s a w ha hs
 generalize scan (s.data.toList.drop a) = R at *
 clear hl
 cases R with
 | err left c =>
  have hc0 : (c != 0) = true := by have := hN left c rfl; simpa using this
  clear hN
  go_wp2
  go_region_held3 (fun w' => w'.cell? ⟨g, 0, none⟩ = some (.string s) ∧ w'.cell? ⟨g, 1, none⟩ = some (.int .i64 a))
   (first
    | go_keep
    | (go_split_ands; exact ⟨hC2.cell (by assumption) (fun e => e), hC2.cell (by assumption) (fun e => e)⟩))
   (first
    | (go_at_call 85; refine (hSc _).mono ?_; rintro e w2 ⟨hC2, rfl, hle⟩; skip))
  have hC3 : Chg (· = g) w w2 := (hC.drewN 1).trans hC2 (fun _ h _ => h.elim)
  go_wp2
  go_ret2
  exact ⟨_, rfl, fun h => absurd rfl h, ⟨a, ha, rfl, ParsAt.chg (hA.drewN 1) hC2 (fun e => e)⟩, hC3⟩
 | ok l rest =>
  clear hN
  have hSc2 : ∀ w, Calls Tryz.prog 85 #[.string s, .int .i64 a] w fun e w' => (∃ A c, e = .returned (.tuple #[.slice A l.length c, .int .i64 (s.size - rest.length : Nat), .int .i64 0]) ∧ (rest.length ≤ s.size ∧ rest = s.data.toList.drop (s.size - rest.length)) ∧ Own w' (fun j => w.heap.size ≤ j) 103 5 (.slice A l.length c) (Part.ds l)) ∧ Chg (fun _ => False) w w' := by
   intro w
   refine (hSc w).mono ?_
   rintro e w' ⟨hC, v, rfl, hj, hO⟩
   obtain ⟨A, c, rfl, _, _⟩ := Own.form hO
   rw [Part.ds_length] at *
   exact ⟨⟨A, c, rfl, hj, hO⟩, hC⟩
  clear hSc
  have hSc := hSc2
  clear hSc2
  match l with
  | [] =>
   go_wp2
   go_region_held3 (fun w' => w'.cell? ⟨g, 0, none⟩ = some (.string s) ∧ w'.cell? ⟨g, 1, none⟩ = some (.int .i64 a))
    (first
     | go_keep
     | (go_split_ands; exact ⟨hC2.cell (by assumption) (fun e => e), hC2.cell (by assumption) (fun e => e)⟩))
    (first
     | (go_at_call 85; refine (hSc _).mono ?_; rintro e w2 ⟨⟨A, c, rfl, hj, hO⟩, hC2⟩; (have HJ := Lib.hid hj; clear hj)))
   have hC3 : Chg (· = g) w w2 := (hC.drewN 1).trans hC2 (fun _ h _ => h.elim)
   go_wp2
   go_ret2
   exact ⟨_, rfl, fun h => absurd rfl h, ⟨a, ha, rfl, ParsAt.chg (hA.drewN 1) hC2 (fun e => e)⟩, hC3⟩
  | p :: q :: l' =>
   have q1 : (((p :: q :: l').length : Int) != 1) = true := by simp; omega
   go_wp2
   go_region_held3 (fun w' => w'.cell? ⟨g, 0, none⟩ = some (.string s) ∧ w'.cell? ⟨g, 1, none⟩ = some (.int .i64 a))
    (first
     | go_keep
     | (go_split_ands; exact ⟨hC2.cell (by assumption) (fun e => e), hC2.cell (by assumption) (fun e => e)⟩))
    (first
     | (go_at_call 85; refine (hSc _).mono ?_; rintro e w2 ⟨⟨A, c, rfl, hj, hO⟩, hC2⟩; (have HJ := Lib.hid hj; clear hj)))
   have hC3 : Chg (· = g) w w2 := (hC.drewN 1).trans hC2 (fun _ h _ => h.elim)
   have HE : Hid (peekR (.ok (p :: q :: l') rest) = ([], [])) := Lib.hid (by obtain ⟨_, _, _, _, _⟩ := p; rfl)
   go_wp2
   go_ret2
   rw [HE.out]
   exact ⟨_, rfl, fun h => absurd rfl h, ⟨a, ha, rfl, ParsAt.chg (hA.drewN 1) hC2 (fun e => e)⟩, hC3⟩
  | [.mk k q t o wd] =>
   go_wp2
   go_region_held3 (fun w' => w'.cell? ⟨g, 0, none⟩ = some (.string s) ∧ w'.cell? ⟨g, 1, none⟩ = some (.int .i64 a))
    (first
     | go_keep
     | (go_split_ands; exact ⟨hC2.cell (by assumption) (fun e => e), hC2.cell (by assumption) (fun e => e)⟩))
    (first
     | (go_at_call 85; refine (hSc _).mono ?_; rintro e w2 ⟨⟨A, c, rfl, hj, hO⟩, hC2⟩; (have HJ := Lib.hid hj; clear hj)))
   have hC3 : Chg (· = g) w w2 := (hC.drewN 1).trans hC2 (fun _ h _ => h.elim)
   obtain ⟨b1, o1, c1', cs1, hv1, _, _, _, hr1, _, hcs1⟩ := sl_get hO.rep (by omega) 0 (Part.d (.mk k q t o wd)) rfl
   simp only [Part.ds, List.length_cons, List.length_nil, Value.slice.injEq] at hv1
   obtain ⟨rfl, _, rfl⟩ := hv1
   obtain ⟨A1, c1, rfl, _, _, _⟩ := part_rep2 hr1
   have g10 := hcs1 0 _ rfl
   have g11 := hcs1 1 _ rfl
   have g12 := hcs1 2 _ rfl
   simp only [Nat.zero_mul, Nat.add_zero, Nat.zero_add, ← Nat.add_assoc] at g10 g11 g12
   have HPR := Lib.hid (⟨a, ha, rfl, ParsAt.chg (hA.drewN 1) hC2 (fun e => e)⟩ : ParsR w2 g s (s.data.toList.drop a) d)
   clear hcs1 hr1 hO
   cases hk : k == 1
   case false =>
    have hk1 : (k != 1) = true := by rw [bne, hk]; rfl
    have HE : Hid (peekR (.ok [.mk k q t o wd] rest) = ([], [])) := Lib.hid (by simp only [peekR, hk, Bool.false_and, Bool.false_eq_true, if_false])
    clear hk
    go_wp2
    go_ret2
    rw [HE.out]
    exact ⟨_, rfl, fun h => absurd rfl h, HPR.out, hC3⟩
   case true =>
    have hk1 : (k != 1) = false := by rw [bne, hk]; rfl
    cases q
    case true =>
     have HE : Hid (peekR (.ok [.mk k true t o wd] rest) = ([], [])) := Lib.hid (by simp only [peekR, hk, Bool.not_true, Bool.and_false, Bool.false_eq_true, if_false])
     clear hk
     go_wp2
     go_ret2
     rw [HE.out]
     exact ⟨_, rfl, fun h => absurd rfl h, HPR.out, hC3⟩
    case false =>
     have HE : Hid (peekR (.ok [.mk k false t o wd] rest) = (t, rest)) := Lib.hid (by simp only [peekR, hk, Bool.not_false, Bool.and_true, if_true])
     clear hk
     go_wp2
     go_ret2
     rw [HE.out]
     exact ⟨_, rfl, fun _ => ⟨by omega, HJ.out.2⟩, HPR.out, hC3⟩
set_option maxRecDepth 100000 in
set_option maxHeartbeats 2000000 in
theorem key_calls (g : Nat) (s : ByteArray) (r : Bytes) (d : Int) (t : Bytes) (ht : t ≠ []) (w : World) (h : ParsR w g s r d) (hs : s.size ≤ 8192) :
  Calls Tryz.prog 86 #[.pointer (some ⟨g, 0, none⟩), .string (bstr t)] w fun e w' => e = .returned (.bool ((peek r).1 == t)) ∧ ParsR w' g s (if (peek r).1 == t then (peek r).2 else blanks r) d ∧ Chg (· = g) w w' := by
 have hP := peek_calls g s r d w h hs
 have hst := str_eq (peek r).1 t
 revert hP hst
 generalize peek r = p
 generalize blanks r = b
 intro hP hst
 obtain ⟨x, y⟩ := p
 simp only at *
 cases hx : x == t
 case true =>
  rw [hx] at hst
  obtain rfl : x = t := by simpa using hx
  simp only [if_true]
  clear hx
  go_enter Tryz.func86, Tryz.ntmps86
  go_wp2_with fail
  refine Calls.mono hP ?_
  rintro e w1 ⟨n, rfl, hn, hR, hC⟩
  obtain ⟨hn1, hn2⟩ := hn ht
  obtain ⟨a, ha, hr, hl, hA⟩ := hR.pos
  obtain ⟨h0, h1, h2, f1, _, hgl⟩ := ParsAt.cells hA
  have HP := Lib.hid (fun v hv => ParsR.at' hA n hn1 v hv)
  have HN := Lib.hid hn2
  clear hn hn2 hr hl hR hP
  go_wp2
  go_ret
  exact ⟨rfl, by rw [show y = s.data.toList.drop n from HN.out]; exact HP.out _ rfl, hC.setCell (fun _ => rfl) _⟩
 case false =>
  rw [hx] at hst
  simp only [Bool.false_eq_true, if_false]
  clear hx
  go_enter Tryz.func86, Tryz.ntmps86
  go_wp2_with fail
  refine Calls.mono hP ?_
  rintro e w1 ⟨n, rfl, hn, hR, hC⟩
  clear hn hP
  go_wp2
  go_ret
  exact ⟨rfl, hR, hC⟩
set_option maxRecDepth 100000 in
set_option maxHeartbeats 2000000 in
theorem must_calls (g : Nat) (s : ByteArray) (r : Bytes) (d : Int) (t : Bytes) (ht : t ≠ []) (w : World) (h : ParsR w g s r d) (hs : s.size ≤ 8192) :
  Calls Tryz.prog 116 #[.pointer (some ⟨g, 0, none⟩), .string (bstr t)] w (PPost w g s d (mustP t r) isVoid) := by
 have hT := key_calls g s r d t ht w h hs
 generalize hR : mustP t r = R
 cases hx : (peek r).1 == t
 case true =>
  have HR : Hid (R = .ok () (peek r).2) := Lib.hid (by rw [← hR, mustP, if_pos hx])
  rw [if_pos hx, hx] at hT
  clear hR hx
  go_enter Tryz.func116, Tryz.ntmps116
  go_wp2_with fail
  refine Calls.mono hT ?_
  rintro e w1 ⟨rfl, hP, hC⟩
  go_wp2
  go_end0
  rw [HR.out]
  exact ⟨_, rfl, rfl, hP, hC⟩
 case false =>
  have HR : Hid (R = failS (blanks r) 61) := Lib.hid (by rw [← hR, mustP, if_neg (by rw [hx]; simp)])
  rw [if_neg (by rw [hx]; simp), hx] at hT
  clear hR hx
  go_enter Tryz.func116, Tryz.ntmps116
  go_wp2_with fail
  refine Calls.mono hT ?_
  rintro e w1 ⟨rfl, hP, hC⟩
  obtain ⟨a, ha, hr, hl, hA⟩ := hP.pos
  obtain ⟨h0, h1, h2, f1, _, hgl⟩ := ParsAt.cells hA
  have HB := Lib.hid hr
  clear hr hl hP
  go_wp2_with fail
  refine Calls.mono (fail_here g s (blanks r) d 61 w w1 a HB.out ha hA hC isVoid) ?_
  rintro e w2 ⟨⟨c, rfl⟩, hpost, _⟩
  go_wp2
  rw [HR.out]
  exact ⟨rfl, hpost⟩
theorem closing_calls (t : Bytes) (w : World) :
  Calls Tryz.prog 72 #[.string (bstr t)] w fun e w' => e = .returned (.bool (closing t)) ∧ w = w' := by
 have k1 : ((bstr t).toList == [116, 104, 101, 110]) = (t == [116, 104, 101, 110]) := by rw [ByteArray.toList_eq, bstr_toList]
 have k2 : ((bstr t).toList == [101, 108, 115, 101]) = (t == [101, 108, 115, 101]) := by rw [ByteArray.toList_eq, bstr_toList]
 have k3 : ((bstr t).toList == [101, 108, 105, 102]) = (t == [101, 108, 105, 102]) := by rw [ByteArray.toList_eq, bstr_toList]
 have k4 : ((bstr t).toList == [102, 105]) = (t == [102, 105]) := by rw [ByteArray.toList_eq, bstr_toList]
 have k5 : ((bstr t).toList == [100, 111]) = (t == [100, 111]) := by rw [ByteArray.toList_eq, bstr_toList]
 have k6 : ((bstr t).toList == [100, 111, 110, 101]) = (t == [100, 111, 110, 101]) := by rw [ByteArray.toList_eq, bstr_toList]
 have k7 : ((bstr t).toList == [101, 115, 97, 99]) = (t == [101, 115, 97, 99]) := by rw [ByteArray.toList_eq, bstr_toList]
 have k8 : ((bstr t).toList == [125]) = (t == [125]) := by rw [ByteArray.toList_eq, bstr_toList]
 have hc : closing t = (t == [116, 104, 101, 110] || (t == [101, 108, 115, 101] || (t == [101, 108, 105, 102] || (t == [102, 105] || (t == [100, 111] || (t == [100, 111, 110, 101] || (t == [101, 115, 97, 99] || t == [125]))))))) := by
  simp only [closing, closers, List.contains_cons, List.contains_nil, Bool.or_false]
 rw [hc]
 clear hc
 generalize (t == [116, 104, 101, 110]) = b1 at *
 generalize (t == [101, 108, 115, 101]) = b2 at *
 generalize (t == [101, 108, 105, 102]) = b3 at *
 generalize (t == [102, 105]) = b4 at *
 generalize (t == [100, 111]) = b5 at *
 generalize (t == [100, 111, 110, 101]) = b6 at *
 generalize (t == [101, 115, 97, 99]) = b7 at *
 generalize (t == [125]) = b8 at *
 generalize bstr t = x at *
 cases b1
 case true =>
  go_enter Tryz.func72, Tryz.ntmps72
  go_wp2
  go_ret
  exact ⟨rfl, rfl⟩
 case false =>
  cases b2
  case true =>
   go_enter Tryz.func72, Tryz.ntmps72
   go_wp2
   go_ret
   exact ⟨rfl, rfl⟩
  case false =>
   cases b3
   case true =>
    go_enter Tryz.func72, Tryz.ntmps72
    go_wp2
    go_ret
    exact ⟨rfl, rfl⟩
   case false =>
    cases b4
    case true =>
     go_enter Tryz.func72, Tryz.ntmps72
     go_wp2
     go_ret
     exact ⟨rfl, rfl⟩
    case false =>
     cases b5
     case true =>
      go_enter Tryz.func72, Tryz.ntmps72
      go_wp2
      go_ret
      exact ⟨rfl, rfl⟩
     case false =>
      cases b6
      case true =>
       go_enter Tryz.func72, Tryz.ntmps72
       go_wp2
       go_ret
       exact ⟨rfl, rfl⟩
      case false =>
       cases b7
       case true =>
        go_enter Tryz.func72, Tryz.ntmps72
        go_wp2
        go_ret
        exact ⟨rfl, rfl⟩
       case false =>
        cases b8
        case true =>
         go_enter Tryz.func72, Tryz.ntmps72
         go_wp2
         go_ret
         exact ⟨rfl, rfl⟩
        case false =>
         go_enter Tryz.func72, Tryz.ntmps72
         go_wp2
         go_ret
         exact ⟨rfl, rfl⟩
def Stopped (b : Bytes) : Prop := match b with | [] => True | c :: r => (c == 32 || c == 9) = false ∧ (c == 35) = false ∧ (c == 92 && r.head? == some 10) = false
theorem stopped_blanks {b : Bytes} (h : Stopped b) : blanks b = b := by
 cases b with
 | nil => rfl
 | cons c r => exact blanks_stop c r h.1 h.2.1 h.2.2
theorem stopped_drop : ∀ l : Bytes, Stopped (l.dropWhile (fun d => !(d == 10)))
 | [] => trivial
 | c :: l => by
  rw [List.dropWhile_cons]
  split
  ·exact stopped_drop l
  ·rename_i h
   have : c = 10 := by simpa using h
   subst this
   exact ⟨rfl, rfl, rfl⟩
theorem blanks_stopped : ∀ (n : Nat) (r : Bytes), r.length ≤ n → Stopped (blanks r)
 | _, [], _ => trivial
 | 0, _ :: _, h => by simp at h
 | n + 1, [c], _ => by
  simp only [blanks]
  split
  ·trivial
  ·rename_i h
   simp only [Bool.or_eq_true, not_or] at h
   refine ⟨by simp [h.1.1, h.1.2], by simp [h.2], by simp⟩
 | n + 1, c :: d :: r, h => by
  simp only [List.length_cons] at h
  simp only [blanks]
  split
  ·exact blanks_stopped n (d :: r) (by simp; omega)
  split
  ·exact stopped_drop _
  split
  ·exact blanks_stopped n r (by omega)
  ·rename_i h1 h2 h3
   exact ⟨by simpa using h1, by simpa using h2, by simpa using h3⟩
theorem blanks_idem (r : Bytes) : blanks (blanks r) = blanks r := stopped_blanks (blanks_stopped _ r (Nat.le_refl _))
theorem peek_idem (r : Bytes) : peek (blanks r) = peek r := by unfold peek; rw [blanks_idem]
theorem sgn_idem (r : Bytes) : sgn (blanks r) = sgn r := by unfold sgn; rw [blanks_idem]
set_option maxRecDepth 100000 in
set_option maxHeartbeats 2000000 in
theorem over_calls (g : Nat) (s : ByteArray) (r : Bytes) (d : Int) (w : World) (h : ParsR w g s r d) (hs : s.size ≤ 8192) :
  Calls Tryz.prog 54 #[.pointer (some ⟨g, 0, none⟩)] w fun e w' => e = .returned (.bool (over r)) ∧ ParsR w' g s (blanks r) d ∧ Chg (· = g) w w' := by
 have hBl := blanks_calls g s r d w h hs
 have hPk := fun w h => peek_calls g s (blanks r) d w h hs
 have hSg := fun w h => sign_calls g s (blanks r) d w h hs
 simp only [blanks_idem, peek_idem, sgn_idem] at hPk hSg
 have h41 : ((bstr (sgn r)).toList == [41]) = (sgn r == [41]) := by rw [ByteArray.toList_eq, bstr_toList]
 have h59 : ((bstr (sgn r)).toList == [59, 59]) = (sgn r == [59, 59]) := by rw [ByteArray.toList_eq, bstr_toList]
 unfold over
 have hCl := fun w => closing_calls (peek r).1 w
 revert hBl hPk hSg h41 h59 hCl
 generalize blanks r = b
 generalize peek r = p
 generalize sgn r = x
 obtain ⟨px, py⟩ := p
 simp only
 intro hBl hPk hSg h41 h59 hCl
 generalize closing px = bc at *
 generalize (x == [41]) = b1 at *
 generalize (x == [59, 59]) = b2 at *
 generalize hbe : b.isEmpty = be
 have HBE := Lib.hid hbe; clear hbe
 go_enter Tryz.func54, Tryz.ntmps54
 go_wp2_with fail
 refine Calls.mono hBl ?_
 rintro e w1 ⟨rfl, hP1, hC1⟩
 go_wp2_with fail
 refine Calls.mono (hPk _ hP1) ?_
 rintro e w2 ⟨n, rfl, _, hP2, hC2⟩
 go_wp2_with fail
 refine Calls.mono (hSg _ hP2) ?_
 rintro e w3 ⟨rfl, hP3, hC3'⟩
 have hC3 : Chg (· = g) w w3 := (hC1.trans hC2 (fun _ h _ => h)).trans hC3' (fun _ h _ => h)
 obtain ⟨a, ha, hr, hl, hA⟩ := hP3.pos
 obtain ⟨h0, h1, h2, f1, _, hgl⟩ := ParsAt.cells hA
 have HBb := Lib.hid hr
 have hea : ((a : Int) == (s.size : Int)) = be := by
  rw [← HBE.out, Bool.eq_iff_iff, List.isEmpty_iff_length_eq_zero, hl]
  simp; omega
 have hea' : (a == s.size) = be := by
  rw [← hea, Bool.eq_iff_iff]; simp; try omega
 clear hr hl hP1 hP2 hP3 hBl hPk hSg
 cases be
 case true =>
  go_wp2
  go_quiet ((go_at_call 72; exact (hCl _).mono (fun _ _ hh => ⟨hh.1, _, hh.2.symm⟩)))
  go_wp2
  go_ret
  exact ⟨by first | rfl | simp, ⟨a, ha, HBb.out, hA⟩, hC3.drewN _⟩
 case false =>
  cases bc
  case true =>
   go_wp2
   go_quiet ((go_at_call 72; exact (hCl _).mono (fun _ _ hh => ⟨hh.1, _, hh.2.symm⟩)))
   go_wp2
   go_ret
   exact ⟨by first | rfl | simp, ⟨a, ha, HBb.out, hA⟩, hC3.drewN _⟩
  case false =>
   cases b1
   case true =>
    go_wp2
    go_quiet ((go_at_call 72; exact (hCl _).mono (fun _ _ hh => ⟨hh.1, _, hh.2.symm⟩)))
    go_wp2
    go_ret
    exact ⟨by first | rfl | simp, ⟨a, ha, HBb.out, hA⟩, hC3.drewN _⟩
   case false =>
    cases b2
    case true =>
     go_wp2
     go_quiet ((go_at_call 72; exact (hCl _).mono (fun _ _ hh => ⟨hh.1, _, hh.2.symm⟩)))
     go_wp2
     go_ret
     exact ⟨by first | rfl | simp, ⟨a, ha, HBb.out, hA⟩, hC3.drewN _⟩
    case false =>
     go_wp2
     go_quiet ((go_at_call 72; exact (hCl _).mono (fun _ _ hh => ⟨hh.1, _, hh.2.symm⟩)))
     go_wp2
     go_ret
     exact ⟨by first | rfl | simp, ⟨a, ha, HBb.out, hA⟩, hC3.drewN _⟩
end Go.Proofs.YtdfnkmiabmjolaaGreatDoor
namespace Go.Proofs.YtdfnkmiabmjolaaGreatDoor
mutual
def Part.cmds (m : Nat) : Part → Prop
 | .mk k _ t _ w => (k = 3 → t.length ≤ m) ∧ Part.cmdsL m w
def Part.cmdsL (m : Nat) : List Part → Prop
 | [] => True
 | p :: l => Part.cmds m p ∧ Part.cmdsL m l
end
theorem cmdsL_append (m : Nat) : ∀ l l' : List Part, Part.cmdsL m (l ++ l') ↔ Part.cmdsL m l ∧ Part.cmdsL m l'
 | [], l' => by simp [Part.cmdsL]
 | p :: l, l' => by simp [Part.cmdsL, cmdsL_append m l l', and_assoc]
theorem cmds_lit (m : Nat) (s : Bytes) (q : Bool) : Part.cmds m (lit s q) := by simp [lit, Part.cmds, Part.cmdsL]
theorem cmds_add (m : Nat) (l : List Part) (p : Part) (hl : Part.cmdsL m l) (hp : Part.cmds m p) : Part.cmdsL m (add l p) := by
 rcases snoc_cases l with rfl | ⟨i, x, rfl⟩
 ·simp only [add, Part.cmdsL]; exact ⟨hp, trivial⟩
 ·rw [add_snoc]
  rw [cmdsL_append] at hl
  obtain ⟨h1, h2⟩ := hl
  split
  ·rename_i hc
   obtain ⟨k, q, t, o, w⟩ := x
   simp only [Bool.and_eq_true, beq_iff_eq, Part.kind] at hc
   rw [cmdsL_append]
   refine ⟨h1, ⟨?_, h2.1.2⟩, trivial⟩
   intro e
   simp only [Part.kind] at e
   omega
  ·rw [show i ++ [x, p] = (i ++ [x]) ++ [p] by simp, cmdsL_append, cmdsL_append]
   exact ⟨⟨h1, h2⟩, hp, trivial⟩
theorem escape_cmds (m : Nat) (l l' : List Part) (r r' : Bytes) (h : escape l r = .ok l' r') (hl : Part.cmdsL m l) : Part.cmdsL m l' := by
 unfold escape at h
 split at h
 ·simp only [Rs.ok.injEq] at h
  obtain ⟨rfl, rfl⟩ := h
  split
  ·exact hl
  ·exact cmds_add m _ _ hl (cmds_lit _ _ _)
 ·simp at h
mutual
theorem allP_cmds (m : Nat) : ∀ p : Part, Part.cmds m p → Part.cmds m (allP p)
 | .mk k q t o w, h => by
  rw [allP]
  exact ⟨h.1, allL_cmds m [] w trivial h.2⟩
theorem allL_cmds (m : Nat) : ∀ (acc l : List Part), Part.cmdsL m acc → Part.cmdsL m l → Part.cmdsL m (allL acc l)
 | acc, [], ha, _ => by rw [allL]; exact ha
 | acc, p :: ps, ha, h => by
  rw [allL]
  exact allL_cmds m _ ps (cmds_add m _ _ ha (allP_cmds m p h.1)) h.2
end
theorem allB_cmds (m : Nat) (p : Part) (q : Bool) (h : Part.cmds m p) : Part.cmds m (allB p q) := by
 cases q
 ·exact h
 ·exact allP_cmds m p h
structure ScanCmds (m n : Nat) : Prop where
 word : ∀ deep br q l r l' r', r.length ≤ m + 3 → wordF n deep br q l r = .ok l' r' → Part.cmdsL m l → Part.cmdsL m l'
 double : ∀ deep F l r l' r', r.length ≤ m + 3 → doubleF n deep F l r = .ok l' r' → Part.cmdsL m l → Part.cmdsL m l'
 dollar : ∀ deep q r p r', r.length ≤ m + 2 → dollarF n deep q r = .ok p r' → Part.cmds m p
 param : ∀ deep q r p r', r.length ≤ m + 2 → paramF n deep q r = .ok p r' → Part.cmds m p
theorem scan_cmds (m : Nat) : ∀ n, ScanCmds m n
 | 0 => ⟨by intros; rename_i h _; simp [wordF] at h, by intros; rename_i h _; simp [doubleF] at h, by intros; rename_i h; simp [dollarF] at h, by intros; rename_i h; simp [paramF] at h⟩
 | n + 1 => by
  obtain ⟨ihw, ihd, ihs, ihp⟩ := scan_cmds m n
  obtain ⟨lw, ld, ls, lp⟩ := scan_len n
  refine ⟨?_, ?_, ?_, ?_⟩
  ·intro deep br q l r l' r' hr h hl
   cases r with
   | nil =>
    simp only [wordF, Rs.ok.injEq] at h
    obtain ⟨rfl, _⟩ := h
    exact hl
   | cons c r =>
    simp only [List.length_cons] at hr
    rw [wordF] at h
    split at h
    ·simp only [Rs.ok.injEq] at h; obtain ⟨rfl, _⟩ := h; exact hl
    ·split at h
     ·split at h
      ·rename_i l1 r1 he
       have := (escape_len _ _ _ _ he).2
       exact ihw _ _ _ _ _ _ _ (by simp at this; omega) h (escape_cmds m _ _ _ _ he hl)
      ·simp at h
     ·split at h
      ·split at h
       ·simp at h
       ·exact ihw _ _ _ _ _ _ _ (by simp; omega) h (cmds_add m _ _ hl (cmds_lit _ _ _))
      ·split at h
       ·split at h
        ·rename_i l1 r1 he
         have := (ld _ _ _ _ _ _ he).2
         exact ihw _ _ _ _ _ _ _ (by omega) h (ihd _ _ _ _ _ _ (by omega) he hl)
        ·simp at h
       ·split at h
        ·simp at h
        ·split at h
         ·split at h
          ·rename_i p1 r1 he
           have := (ls _ _ _ _ _ he).2
           exact ihw _ _ _ _ _ _ _ (by omega) h (cmds_add m _ _ hl (ihs _ _ _ _ _ (by omega) he))
          ·simp at h
         ·exact ihw _ _ _ _ _ _ _ (by omega) h (cmds_add m _ _ hl (cmds_lit _ _ _))
  ·intro deep F l r l' r' hr h hl
   cases r with
   | nil => simp [doubleF] at h
   | cons c r =>
    simp only [List.length_cons] at hr
    rw [doubleF] at h
    split at h
    ·simp only [Rs.ok.injEq] at h
     obtain ⟨rfl, _⟩ := h
     split
     ·exact cmds_add m _ _ hl (cmds_lit _ _ _)
     ·exact hl
    ·split at h
     ·simp at h
     ·split at h
      ·split at h
       ·rename_i p1 r1 he
        have := (ls _ _ _ _ _ he).2
        exact ihd _ _ _ _ _ _ (by omega) h (cmds_add m _ _ hl (ihs _ _ _ _ _ (by omega) he))
       ·simp at h
      ·split at h
       ·split at h
        ·rename_i l1 r1 he
         have := (escape_len _ _ _ _ he).2
         exact ihd _ _ _ _ _ _ (by simp at this; omega) h (escape_cmds m _ _ _ _ he hl)
        ·simp at h
       ·exact ihd _ _ _ _ _ _ (by omega) h (cmds_add m _ _ hl (cmds_lit _ _ _))
  ·intro deep q r p r' hr h
   rw [dollarF, dollarG.eq_def] at h
   split at h
   ·simp at h
   ·split at h
    ·simp only [Rs.ok.injEq] at h
     obtain ⟨rfl, _⟩ := h
     exact ⟨fun e => by omega, trivial⟩
    ·split at h
     ·simp only [Rs.ok.injEq] at h
      obtain ⟨rfl, _⟩ := h
      exact cmds_lit _ _ _
     ·rename_i c r2
      simp only [List.length_cons] at hr
      split at h
      ·simp only [Rs.ok.injEq] at h
       obtain ⟨rfl, _⟩ := h
       exact ⟨fun e => by omega, trivial⟩
      ·split at h
       ·exact ihp _ _ _ _ _ (by omega) h
       ·split at h
        ·split at h
         ·split at h
          ·simp only [Rs.ok.injEq] at h
           obtain ⟨rfl, _⟩ := h
           exact ⟨fun e => by omega, trivial⟩
          ·simp at h
         ·split at h
          ·simp at h
          ·rename_i k hk
           have := insideF_lt _ _ _ _ hk
           simp only [Rs.ok.injEq] at h
           obtain ⟨rfl, _⟩ := h
           exact ⟨fun _ => by simp; omega, trivial⟩
        ·simp only [Rs.ok.injEq] at h
         obtain ⟨rfl, _⟩ := h
         exact cmds_lit _ _ _
  ·intro deep q r p r' hr h
   rw [paramF] at h
   split at h
   ·simp at h
   ·have key : ∀ (len : Bool) (r1 : Bytes), r1.length ≤ r.length → paramG (wordF n (deep + 1) true q []) (r.length + 2) len q r1 = .ok p r' → Part.cmds m p := by
     intro len r1 hr1 h
     rw [paramG] at h
     split at h
     ·simp at h
     ·have hfin : ∀ (t o : Bytes) (l : List Part) (r3 : Bytes), Part.cmdsL m l → finish (r.length + 2) q t o (.ok l r3) = .ok p r' → Part.cmds m p := by
       intro t o l r3 hl h
       rw [finish.eq_def] at h
       dsimp only at h
       split at h
       ·simp at h
       ·split at h
        ·simp only [Rs.ok.injEq] at h
         obtain ⟨rfl, _⟩ := h
         exact allB_cmds m _ q ⟨fun e => by omega, hl⟩
        ·simp at h
      cases len with
      | true =>
       simp only [if_true, Bool.true_or] at h
       exact hfin _ _ [] _ trivial h
      | false =>
       simp only [Bool.false_or, Bool.false_eq_true, if_false] at h
       by_cases hop : (opM (r1.drop (parameter r1)) == []) = true
       ·rw [if_pos hop] at h
        exact hfin _ _ [] _ trivial h
       ·rw [if_neg hop] at h
        generalize hw : wordF n (deep + 1) true q [] ((r1.drop (parameter r1)).drop (opM (r1.drop (parameter r1))).length) = W at h
        cases W with
        | ok l r3 => exact hfin _ _ _ _ (ihw _ _ _ _ _ _ _ (by simp; omega) hw trivial) h
        | err a1 e1 => simp [finish] at h
    split at h
    ·exact key _ _ (by simp) h
    ·exact key _ _ (Nat.le_refl _) h
theorem scan_short (r r' : Bytes) (l : List Part) (h : scan r = .ok l r') : Part.cmdsL (r.length - 3) l :=
 (scan_cmds (r.length - 3) _).word _ _ _ _ _ _ _ (by omega) h trivial
end Go.Proofs.YtdfnkmiabmjolaaGreatDoor
namespace Go.Proofs.YtdfnkmiabmjolaaGreatDoor
open Go.RowKit
def PeSaid (pe : Bytes → Int) (d : Nat) (m : Nat) : Prop := ∀ (t : Bytes) (w : World), t.length ≤ m →
 Calls Tryz.prog 18 #[.string (bstr t), .int .i64 ((d : Int) + 1)] w fun e w' => (∃ A n c k, e = .returned (.tuple #[.slice A n c, .int .i64 k, .int .i64 (pe t)])) ∧ Chg (fun _ => False) w w'
def insR (b : Bytes) (x : Int) : Rs Unit := if x != 0 then failS b x else .ok () b
theorem cmdsL_get (m : Nat) : ∀ (l : List Part) (i : Nat) (p : Part), Part.cmdsL m l → l[i]? = some p → Part.cmds m p
 | [], _, _, _, h => by simp at h
 | q :: l, 0, p, h, hp => by
  simp at hp
  subst hp
  exact h.1
 | q :: l, i + 1, p, h, hp => cmdsL_get m l i p h.2 (by simpa using hp)
theorem insPs_drop (pe : Bytes → Int) (l : List Part) (k : Nat) (p : Part) (hp : l[k]? = some p) : insPs pe (l.drop k) = if insP pe p != 0 then insP pe p else insPs pe (l.drop (k + 1)) := by
 obtain ⟨h1, e1⟩ := List.getElem?_eq_some_iff.1 hp
 rw [List.drop_eq_getElem_cons h1, e1, insPs]
theorem failS_err (b : Bytes) (x : Int) : ∃ l c, (failS b x : Rs Unit) = .err l c := by
 unfold failS failP
 split
 ·exact ⟨_, _, rfl⟩
 ·exact ⟨_, _, rfl⟩
set_option maxRecDepth 100000 in
set_option maxHeartbeats 4000000 in
theorem inside_step (n : Nat) (pe : Bytes → Int) (d : Nat) (hd : d ≤ 20) (g : Nat) (s : ByteArray) (hs : s.size ≤ 8192) (m : Nat) (hpe : PeSaid pe d m)
  (IH : ∀ (w : World) (l : List Part) (v : Value) (S : Nat → Prop) (a : Nat), Part.wts l < n → Part.cmdsL m l → a ≤ s.size → ParsAt w g s a d → Rep w S (.sl 103 5 (Part.ds l)) [v] →
   Calls Tryz.prog 147 #[.pointer (some ⟨g, 0, none⟩), v, .int .i64 a] w (fun e w' => Chg (fun _ => False) w w' ∧ PPost w g s d (insR (s.data.toList.drop a) (insPs pe l)) isVoid e w'))
  (w : World) (l : List Part) (v : Value) (S : Nat → Prop) (a : Nat) (hn : Part.wts l ≤ n) (hm : Part.cmdsL m l) (ha : a ≤ s.size) (hA : ParsAt w g s a d) (hv : Rep w S (.sl 103 5 (Part.ds l)) [v]) :
   Calls Tryz.prog 147 #[.pointer (some ⟨g, 0, none⟩), v, .int .i64 a] w (fun e w' => Chg (fun _ => False) w w' ∧ PPost w g s d (insR (s.data.toList.drop a) (insPs pe l)) isVoid e w') := by
 obtain ⟨A, c, inner, e1, hc1, hx1, hR1, hE1⟩ := id hv
 have hv1 : v = .slice A l.length c := by rw [Part.ds_length] at e1; simpa using e1
 subst hv1
 rw [Part.ds_length] at hc1
 clear e1 hR1 hE1
 simp only [maxLen] at hx1
 have hll := Part.length_le l
 generalize hR : insPs pe l = R
 have HR : Hid (insPs pe (l.drop 0) = R) := Lib.hid hR
 clear hR
 go_enter Tryz.func147, Tryz.ntmps147
 go_wp2
 go_loopg [13] l.length (fun rk iv wr => ∃ i : Nat, iv = .int .i64 i ∧ i + rk = l.length ∧ Hid (insPs pe (l.drop i) = R) ∧ Chg (fun _ => False) w wr)
 case atStart => exact ⟨0, by go_num, by omega, HR, Chg.refl _ _⟩
 case round =>
  clear HR
  obtain ⟨i, rfl, hi, HK, hC⟩ := hrel
  by_cases hlt : i < l.length
  ·have p0 : (0 : Int) ≤ (i : Int) := by omega
   have p1 : (i : Int) < (l.length : Int) := by omega
   obtain ⟨p, hp⟩ : ∃ p, l[i]? = some p := ⟨l[i], List.getElem?_eq_getElem hlt⟩
   have HD := Lib.hid (insPs_drop pe l i p hp)
   have hwp := wt_get hp
   have hwd := wts_drop l i
   have hvw := hv.stay hC (fun _ _ e => e)
   obtain ⟨b1, o1, c1', cs1, hv1, _, _, _, hr1, _, hcs1⟩ := sl_get hvw (by omega) i p.d (by rw [Part.ds_map, List.getElem?_map, hp]; rfl)
   rw [Part.ds_length] at hv1
   simp only [Value.slice.injEq] at hv1
   obtain ⟨rfl, _, rfl⟩ := hv1
   obtain ⟨k, q, t, o, wd⟩ := p
   obtain ⟨A1, c1, rfl, hwv, _, _⟩ := part_rep2 hr1
   have g10 := hcs1 0 _ rfl
   have g11 := hcs1 1 _ rfl
   have g12 := hcs1 2 _ rfl
   have g13 := hcs1 3 _ rfl
   have g14 := hcs1 4 _ rfl
   simp only [Nat.add_zero, ← Nat.add_assoc] at g10 g11 g12 g13 g14
   simp only [Part.wt] at hwp
   have hA1 : ParsAt wr g s a d := hA.chg hC (fun e => e)
   have kB := row_new wr (.cells #[.int .i64 k, .bool q, .string (bstr t), .string (bstr o), .slice A1 wd.length c1] 103)
   have hC2 : Chg (fun _ => False) wr (wr.alloc (.cells #[.int .i64 k, .bool q, .string (bstr t), .string (bstr o), .slice A1 wd.length c1] 103)) := (Chg.refl _ _).alloc _
   have HW := Lib.hid (hwv.stay hC2 (fun _ _ e => e))
   have hA2 := hA1.chg hC2 (fun e => e)
   have hCw := hC.trans hC2 (fun _ h _ => h)
   have hcm := cmdsL_get m l i _ hm hp
   have htl : k = 3 → t.length ≤ m := hcm.1
   have hwl : Part.wts wd < n := by omega
   have hwm : Part.cmdsL m wd := hcm.2
   clear hcs1 hr1 hvw hp hcm hwp hwd hwv hC2 hC hA1 hll
   cases hk3 : k == 3
   case false =>
    have HE : Hid (insP pe (.mk k q t o wd) = insPs pe wd) := Lib.hid (by rw [insP, hk3]; rfl)
    have kcl := row_cells kB
    go_wp2_with fail
    clear kcl
    refine Calls.mono (IH _ wd _ _ a hwl hwm ha hA2 HW.out) ?_
    rintro e w3 ⟨hC3, hp⟩
    have hC4 := hCw.trans hC3 (fun _ h _ => h)
    cases hz : insPs pe wd != 0
    case true =>
     have HR2 : Hid (R = insPs pe wd) := Lib.hid (by rw [← HK.out, HD.out, HE.out, if_pos hz])
     have HX : Hid (insR (s.data.toList.drop a) R = insR (s.data.toList.drop a) (insPs pe wd)) := Lib.hid (by rw [HR2.out])
     obtain ⟨l', c', hfe⟩ := failS_err (s.data.toList.drop a) (insPs pe wd)
     have HI : Hid (insR (s.data.toList.drop a) (insPs pe wd) = .err l' c') := Lib.hid (by rw [insR, if_pos hz, hfe])
     rw [HI.out] at hp
     obtain ⟨k', hk', hl', rfl, hcc⟩ := hp
     have HL := Lib.hid hl'; clear hl' hfe hz
     go_wp2
     refine ⟨rfl, hC4, ?_⟩
     rw [HX.out, HI.out]
     exact ⟨k', hk', HL.out, rfl, hC4.mono (fun _ h _ => h.elim)⟩
    case false =>
     have HR2 : Hid (insPs pe (l.drop (i + 1)) = R) := Lib.hid (by rw [← HK.out, HD.out, HE.out, hz]; rfl)
     have HI : Hid (insR (s.data.toList.drop a) (insPs pe wd) = .ok () (s.data.toList.drop a)) := Lib.hid (by rw [insR, hz]; rfl)
     rw [HI.out] at hp
     obtain ⟨v', rfl, hv', _, _⟩ := hp
     have hv'' : v' = .tuple #[] := hv'
     subst hv''
     clear hz hv'
     go_wp2
     go_roundg (gk - 1)
     case measure => omega
     case rel => exact ⟨i + 1, by go_num, by omega, HR2, hC4⟩
   case true =>
    have kcl := row_cells kB
    obtain ⟨h0, h1, h2, f1, _, hgl⟩ := ParsAt.cells hA2
    have hP := fun w => hpe t w (htl (by simpa using hk3))
    have r0 : IntKind.i64.wrap ((d : Int) + 1) = (d : Int) + 1 := IntWalk.i64_in _ (by omega)
    generalize hW2 : wr.alloc (.cells #[.int .i64 k, .bool q, .string (bstr t), .string (bstr o), .slice A1 wd.length c1] 103) = W2 at *
    have HW2 := Lib.hid hW2; clear hW2
    clear f1 hgl
    go_wp2
    rw [HW2.out]
    go_region_held3 (fun w' => w'.cell? ⟨wr.heap.size, 2, none⟩ = some (.string (bstr t)) ∧ w'.cell? ⟨g, 2, none⟩ = some (.int .i64 d))
     (first
      | go_keep
      | (go_split_ands; exact ⟨hC3.cell (by assumption) (fun e => e), hC3.cell (by assumption) (fun e => e)⟩))
     (first
      | (go_at_call 18; refine (hP _).mono ?_; rintro e w3 ⟨⟨A', n', c', k', rfl⟩, hC3⟩))
    rename_i hHeld
    clear hHeld kcl h0 h1 h2 hP r0
    have hC5 : Chg (fun _ => False) W2 w3 := ((Chg.refl (fun _ => False) W2).drewN 1).trans hC3 (fun _ h _ => h)
    have hA3 := hA2.chg hC5 (fun e => e)
    have kB3 := row_chg kB hC5 (fun e => e)
    have hW3 := HW.out.stay hC5 (fun _ _ e => e)
    have hCw3 := hCw.trans hC5 (fun _ h _ => h)
    have HW3 := Lib.hid hW3; clear hW3 HW
    clear hC3 hC5 kB
    cases hz0 : pe t != 0
    case true =>
     have HR2 : Hid (insR (s.data.toList.drop a) R = failS (s.data.toList.drop a) (pe t)) := Lib.hid (by
      rw [← HK.out, HD.out, insP, hk3, hz0]
      simp only [Bool.and_self, if_true, hz0, insR])
     go_wp2_with fail
     refine Calls.mono (fail_here g s (s.data.toList.drop a) d (pe t) w w3 a rfl ha hA3 (hCw3.mono (fun _ h _ => h.elim)) isVoid) ?_
     rintro e w4 ⟨⟨c4, rfl⟩, hpost, rfl⟩
     clear hz0
     go_wp2
     refine ⟨rfl, hCw3, ?_⟩
     rw [HR2.out]
     exact hpost
    case false =>
     have HE : Hid (insP pe (.mk k q t o wd) = insPs pe wd) := Lib.hid (by rw [insP, hz0, Bool.and_false]; rfl)
     have kcl := row_cells kB3
     go_wp2_with fail
     clear kcl hz0
     refine Calls.mono (IH _ wd _ _ a hwl hwm ha hA3 HW3.out) ?_
     rintro e w3 ⟨hC3, hp⟩
     have hC4 := hCw3.trans hC3 (fun _ h _ => h)
     cases hz : insPs pe wd != 0
     case true =>
      have HR2 : Hid (R = insPs pe wd) := Lib.hid (by rw [← HK.out, HD.out, HE.out, if_pos hz])
      have HX : Hid (insR (s.data.toList.drop a) R = insR (s.data.toList.drop a) (insPs pe wd)) := Lib.hid (by rw [HR2.out])
      obtain ⟨l', c', hfe⟩ := failS_err (s.data.toList.drop a) (insPs pe wd)
      have HI : Hid (insR (s.data.toList.drop a) (insPs pe wd) = .err l' c') := Lib.hid (by rw [insR, if_pos hz, hfe])
      rw [HI.out] at hp
      obtain ⟨k', hk', hl', rfl, hcc⟩ := hp
      have HL := Lib.hid hl'; clear hl' hfe hz
      go_wp2
      refine ⟨rfl, hC4, ?_⟩
      rw [HX.out, HI.out]
      exact ⟨k', hk', HL.out, rfl, hC4.mono (fun _ h _ => h.elim)⟩
     case false =>
      have HR2 : Hid (insPs pe (l.drop (i + 1)) = R) := Lib.hid (by rw [← HK.out, HD.out, HE.out, hz]; rfl)
      have HI : Hid (insR (s.data.toList.drop a) (insPs pe wd) = .ok () (s.data.toList.drop a)) := Lib.hid (by rw [insR, hz]; rfl)
      rw [HI.out] at hp
      obtain ⟨v', rfl, hv', _, _⟩ := hp
      have hv'' : v' = .tuple #[] := hv'
      subst hv''
      clear hz hv'
      go_wp2
      go_roundg (gk - 1)
      case measure => omega
      case rel => exact ⟨i + 1, by go_num, by omega, HR2, hC4⟩
  ·have p1 : decide ((i : Int) < (l.length : Int)) = false := by rw [decide_eq_false_iff_not]; omega
   have p1' : decide (i < l.length) = false := by rw [decide_eq_false_iff_not]; omega
   have HR2 : Hid (R = 0) := Lib.hid (by rw [← HK.out, List.drop_eq_nil_of_le (by omega)]; rfl)
   go_wp2
   go_end0
   refine ⟨hC, ?_⟩
   rw [HR2.out]
   exact ⟨_, rfl, rfl, ⟨a, ha, rfl, hA.chg hC (fun e => e)⟩, hC.mono (fun _ h _ => h.elim)⟩
theorem pinside_calls (pe : Bytes → Int) (d : Nat) (hd : d ≤ 20) (g : Nat) (s : ByteArray) (hs : s.size ≤ 8192) (m : Nat) (hpe : PeSaid pe d m)
  (w : World) (l : List Part) (v : Value) (S : Nat → Prop) (a : Nat) (hm : Part.cmdsL m l) (ha : a ≤ s.size) (hA : ParsAt w g s a d) (hv : Rep w S (.sl 103 5 (Part.ds l)) [v]) :
   Calls Tryz.prog 147 #[.pointer (some ⟨g, 0, none⟩), v, .int .i64 a] w (fun e w' => Chg (fun _ => False) w w' ∧ PPost w g s d (insR (s.data.toList.drop a) (insPs pe l)) isVoid e w') := by
 have key : ∀ n, ∀ (w : World) (l : List Part) (v : Value) (S : Nat → Prop) (a : Nat), Part.wts l ≤ n → Part.cmdsL m l → a ≤ s.size → ParsAt w g s a d → Rep w S (.sl 103 5 (Part.ds l)) [v] →
   Calls Tryz.prog 147 #[.pointer (some ⟨g, 0, none⟩), v, .int .i64 a] w (fun e w' => Chg (fun _ => False) w w' ∧ PPost w g s d (insR (s.data.toList.drop a) (insPs pe l)) isVoid e w') := by
  intro n
  induction n using Nat.strongRecOn with
  | _ n ih =>
   intro w l v S a hn hm ha hA hv
   exact inside_step n pe d hd g s hs m hpe (fun w l v S a hl hm ha hA hv => ih _ hl w l v S a (Nat.le_refl _) hm ha hA hv) w l v S a hn hm ha hA hv
 exact key _ w l v S a (Nat.le_refl _) hm ha hA hv
def wordK (pe : Bytes → Int) (b : Bytes) (R : Rs (List Part)) : Rs (List Part) :=
 match R with
 | .err left e => failP left e
 | .ok l r' =>
  if l.isEmpty && r'.length == b.length then failS b 61
  else if insPs pe l != 0 then failS b (insPs pe l)
  else .ok (if l.isEmpty then [lit [] true] else l) r'
theorem wordP_K (pe : Bytes → Int) (r : Bytes) : wordP pe r = wordK pe (blanks r) (scan (blanks r)) := rfl
def isWord (w : World) (l : List Part) (v : Value) (w' : World) : Prop := ∃ A c, v = .slice A l.length c ∧ Rep w' (fun k => w.heap.size ≤ k) (.sl 103 5 (Part.ds l)) [v]
theorem Scan_rows (s : ByteArray) (a : Nat) (w : World) (ha : a ≤ s.size) (hs : s.size ≤ 8192) (l : List Part) (rest : Bytes) (hR : scan (s.data.toList.drop a) = .ok l rest) :
  Calls Tryz.prog 85 #[.string s, .int .i64 a] w fun e w' => (∃ A c, e = .returned (.tuple #[.slice A l.length c, .int .i64 (s.size - rest.length : Nat), .int .i64 0]) ∧ (rest.length ≤ s.size ∧ rest = s.data.toList.drop (s.size - rest.length)) ∧ Rep w' (fun j => w.heap.size ≤ j) (.sl 103 5 (Part.ds l)) [.slice A l.length c]) ∧ Chg (fun _ => False) w w' := by
 have h := Scan_calls s a w ha hs
 rw [hR] at h
 refine h.mono ?_
 rintro e w' ⟨hC, v, rfl, hj, hO⟩
 obtain ⟨A, c, rfl, _, _⟩ := Own.form hO
 have hr := hO.rep
 rw [Part.ds_length] at *
 exact ⟨⟨A, c, rfl, hj, hr⟩, hC⟩
theorem failS_err2 (b : Bytes) (x : Int) : ∃ l c, (failS b x : Rs Unit) = .err l c ∧ (failS b x : Rs (List Part)) = .err l c := by
 unfold failS failP
 split
 ·exact ⟨_, _, rfl, rfl⟩
 ·exact ⟨_, _, rfl, rfl⟩
theorem fail_post {α : Type} {w w2 w4 : World} {g : Nat} {s : ByteArray} {d : Int} {left : Nat} {e : Int} {e' : Ending} {val : α → Value → World → Prop} (hC : Chg (· = g) w w2)
  (hp : PPost w2 g s d (failP (α := Unit) left e) (fun _ _ _ => True) e' w4) : (∃ c, e' = .panicked c) ∧ PPost w g s d (failP (α := α) left e) val e' w4 := by
 unfold failP PPost at *
 revert hp
 by_cases hh : (left == 0 && e == 61) = true
 ·rw [if_pos hh, if_pos hh]
  rintro ⟨k, h1, h2, h3, h4⟩
  exact ⟨⟨_, h3⟩, k, h1, h2, h3, hC.trans h4 (fun _ h _ => h)⟩
 ·rw [if_neg hh, if_neg hh]
  rintro ⟨k, h1, h2, h3, h4⟩
  exact ⟨⟨_, h3⟩, k, h1, h2, h3, hC.trans h4 (fun _ h _ => h)⟩
set_option maxRecDepth 100000 in
set_option maxHeartbeats 4000000 in
theorem pword_calls (pe : Bytes → Int) (d : Nat) (hd : d ≤ 20) (g : Nat) (s : ByteArray) (r : Bytes) (w : World) (h : ParsR w g s r d) (hs : s.size ≤ 8192) (hpe : PeSaid pe d (r.length - 3)) :
  Calls Tryz.prog 123 #[.pointer (some ⟨g, 0, none⟩)] w (PPost w g s d (wordP pe r) (isWord w)) := by
 have hBl := blanks_calls g s r d w h hs
 have hle := blanks_le r
 rw [wordP_K]
 revert hBl hle
 generalize blanks r = b
 intro hBl hle
 generalize hX : wordK pe b (scan b) = X
 have HX := Lib.hid hX; clear hX
 go_enter Tryz.func123, Tryz.ntmps123
 go_wp2_with fail
 refine Calls.mono hBl ?_
 clear hBl
 rintro e w1 ⟨rfl, hP, hC⟩
 obtain ⟨a, ha, rfl, hl, hA⟩ := hP.pos
 obtain ⟨h0, h1, h2, f1, _, hgl⟩ := ParsAt.cells hA
 cases hR : scan (s.data.toList.drop a) with
 | err left c =>
  have hc0 : (c != 0) = true := by have := scan_err _ left c hR; simpa using this
  have hSc : ∀ w, Calls Tryz.prog 85 #[.string s, .int .i64 a] w fun e w' => (e = .returned (.tuple #[.slice none 0 0, .int .i64 (s.size - left : Nat), .int .i64 c]) ∧ left ≤ s.size) ∧ Chg (fun _ => False) w w' := by
   intro w
   have h := Scan_calls s a w ha hs
   rw [hR] at h
   exact h.mono (fun _ _ h => ⟨h.2, h.1⟩)
  have HX2 : Hid (X = failP left c) := Lib.hid (by rw [← HX.out, hR]; rfl)
  clear hR hl
  go_wp2
  go_region_held3 (fun w' => w'.cell? ⟨g, 0, none⟩ = some (.string s) ∧ w'.cell? ⟨g, 1, none⟩ = some (.int .i64 a))
   (first
    | go_keep
    | (go_split_ands; exact ⟨hC2.cell (by assumption) (fun e => e), hC2.cell (by assumption) (fun e => e)⟩))
   (first
    | (go_at_call 85; refine (hSc _).mono ?_; rintro e w2 ⟨⟨rfl, hle2⟩, hC2⟩; skip))
  rename_i hHeld
  clear hHeld
  have hC3 : Chg (· = g) w w2 := (hC.drewN 1).trans hC2 (fun _ h _ => h.elim)
  have hA2 := ParsAt.chg (hA.drewN 1) hC2 (fun e => e)
  go_wp2_with fail
  refine Calls.mono (failS_calls g s a d (s.size - left) c w2 hA2 (by omega)) ?_
  rintro e w4 ⟨hp, rfl⟩
  rw [show s.size - (s.size - left) = left by omega] at hp
  obtain ⟨⟨c4, rfl⟩, hpost⟩ := fail_post (val := isWord w) hC3 hp
  clear hp hle2
  go_wp2
  rw [HX2.out]
  exact ⟨rfl, hpost⟩
 | ok l rest =>
  have hSc := fun w => Scan_rows s a w ha hs l rest hR
  have hcm := scan_short _ _ _ hR
  have hpe2 : PeSaid pe d ((s.data.toList.drop a).length - 3) := fun t w ht => hpe t w (by omega)
  have HX2 : Hid (X = if l.isEmpty && rest.length == (s.data.toList.drop a).length then failS (s.data.toList.drop a) 61 else if insPs pe l != 0 then failS (s.data.toList.drop a) (insPs pe l) else .ok (if l.isEmpty then [lit [] true] else l) rest) := Lib.hid (by rw [← HX.out, hR]; rfl)
  clear hR HX
  go_wp2
  go_region_held3 (fun w' => w'.cell? ⟨g, 0, none⟩ = some (.string s) ∧ w'.cell? ⟨g, 1, none⟩ = some (.int .i64 a))
   (first
    | go_keep
    | (go_split_ands; exact ⟨hC2.cell (by assumption) (fun e => e), hC2.cell (by assumption) (fun e => e)⟩))
   (first
    | (go_at_call 85; refine (hSc _).mono ?_; rintro e w2 ⟨⟨A, c, rfl, hj, hO⟩, hC2⟩; (have HJ := Lib.hid hj; clear hj)))
  rename_i hHeld
  clear hHeld
  have hC3 : Chg (· = g) w w2 := (hC.drewN 1).trans hC2 (fun _ h _ => h.elim)
  have hA2 := ParsAt.chg (hA.drewN 1) hC2 (fun e => e)
  obtain ⟨k0, k1, k2, kf1, _, kgl⟩ := ParsAt.cells hA2
  have HO := Lib.hid (hO.mono (S' := fun k => w.heap.size ≤ k) (fun k h _ => by have := hC.size; simp at h; omega)); clear hO hSc
  have hins := pinside_calls pe d hd g s hs _ hpe2 w2 l _ _ a hcm ha hA2 HO.out
  have hl2 : (s.data.toList.drop a).length = s.size - a := drop_len _ _
  rw [hl2] at HX2
  match l with
  | [] =>
   by_cases hsame : rest.length = s.size - a
   ·have q1 : (((s.size - rest.length : Nat) : Int) == (a : Int)) = true := by simp; omega
    have HX3 : Hid (X = failS (s.data.toList.drop a) 61) := Lib.hid (by rw [HX2.out, hsame]; simp)
    clear hsame hins
    go_wp2_with fail
    refine Calls.mono (fail_here g s (s.data.toList.drop a) d 61 w w2 a rfl ha hA2 hC3 (isWord w)) ?_
    rintro e w4 ⟨⟨c4, rfl⟩, hpost, rfl⟩
    go_wp2
    rw [HX3.out]
    exact ⟨rfl, hpost⟩
   ·have q1 : (((s.size - rest.length : Nat) : Int) == (a : Int)) = false := by have := HJ.out.1; simp; omega
    have HX3 : Hid (X = .ok [lit [] true] rest) := Lib.hid (by
     rw [HX2.out, show (rest.length == s.size - a) = false by simpa using hsame]; rfl)
    have hins0 : insR (s.data.toList.drop a) (insPs pe []) = .ok () (s.data.toList.drop a) := rfl
    rw [hins0] at hins
    clear hsame
    go_wp2_with fail
    refine Calls.mono hins ?_
    clear hins
    rintro e w3 ⟨hC4, v', rfl, hv', _, _⟩
    have hv'' : v' = .tuple #[] := hv'
    subst hv''
    have hA3 := hA2.chg hC4 (fun e => e)
    obtain ⟨k0, k1, k2, kf1, _, kgl⟩ := ParsAt.cells hA3
    have HP := Lib.hid (fun v hv => ParsR.at' hA3 (s.size - rest.length) (by omega) v hv)
    have hC5 : Chg (· = g) w w3 := hC3.trans hC4 (fun _ h _ => h.elim)
    clear hv' k0 h0
    go_wp2
    go_ret
    rw [HX3.out]
    refine ⟨_, rfl, ⟨_, _, rfl, ?_⟩, ?_, (hC5.setCell (p := ⟨g, 1, none⟩) (fun _ => rfl) _).alloc _⟩
    ·have hrow := fun o => row_new (w3.setCell ⟨g, 1, none⟩ (.int .i64 ((s.size - rest.length : Nat) : Int))) o
     simp only [World.size_setCell] at hrow
     exact ⟨_, _, _, rfl, Nat.le_refl _, by simp [maxLen], row_rd (hrow _) (by have := hC5.size; simp; omega), _, [], rfl, rfl, part_nil _ _ 1 true ⟨#[]⟩ [] rfl, rfl⟩
    ·have hr := HP.out (.int .i64 ((s.size - rest.length : Nat) : Int)) rfl
     rw [← HJ.out.2] at hr
     exact ParsR.chg (B := fun _ => False) hr ((Chg.refl (fun _ => False) _).alloc _) (fun e => e)
  | p :: l' =>
   have HX3 : Hid (X = if insPs pe (p :: l') != 0 then failS (s.data.toList.drop a) (insPs pe (p :: l')) else .ok (p :: l') rest) := Lib.hid (by rw [HX2.out]; rfl)
   have q2 : (((p :: l').length : Int) == 0) = false := by simp; omega
   have q3 : ((l'.length : Int) + 1 == 0) = false := by simp; omega
   cases hz : insPs pe (p :: l') != 0
   case true =>
    obtain ⟨l3, c3, hfe, hfe2⟩ := failS_err2 (s.data.toList.drop a) (insPs pe (p :: l'))
    rw [insR, if_pos hz, hfe] at hins
    have HX4 : Hid (X = .err l3 c3) := Lib.hid (by rw [HX3.out, if_pos hz, hfe2])
    clear hz hfe hfe2
    go_wp2_with fail
    refine Calls.mono hins ?_
    clear hins
    rintro e w3 ⟨hC4, k', hk', hl', rfl, hC4'⟩
    have HL := Lib.hid hl'; clear hl'
    have hC5 : Chg (· = g) w w3 := hC3.trans hC4 (fun _ h _ => h.elim)
    go_wp2
    rw [HX4.out]
    exact ⟨rfl, k', hk', HL.out, rfl, hC5⟩
   case false =>
    rw [insR, hz] at hins
    have HX4 : Hid (X = .ok (p :: l') rest) := Lib.hid (by rw [HX3.out, hz]; rfl)
    clear hz
    go_wp2_with fail
    refine Calls.mono hins ?_
    clear hins
    rintro e w3 ⟨hC4, v', rfl, hv', _, _⟩
    have hv'' : v' = .tuple #[] := hv'
    subst hv''
    have hA3 := hA2.chg hC4 (fun e => e)
    obtain ⟨k0, k1, k2, kf1, _, kgl⟩ := ParsAt.cells hA3
    have HP := Lib.hid (fun v hv => ParsR.at' hA3 (s.size - rest.length) (by omega) v hv)
    have hC5 : Chg (· = g) w w3 := hC3.trans hC4 (fun _ h _ => h.elim)
    have HO3 := Lib.hid ((HO.out.stay hC4 (fun _ _ e => e)).bound)
    have hgl0 := h.lt
    clear hv' k0 h0
    go_wp2
    go_ret
    rw [HX4.out]
    refine ⟨_, rfl, ⟨_, _, rfl, ?_⟩, ?_, hC5.setCell (p := ⟨g, 1, none⟩) (fun _ => rfl) _⟩
    ·exact (HO3.out.stay ((Chg.refl (fun k => k = g) _).setCell (p := ⟨g, 1, none⟩) (fun _ => rfl) _) (fun k hk e => by have := hk.1; omega)).mono (fun k hk _ => hk.1)
    ·have hr := HP.out (.int .i64 ((s.size - rest.length : Nat) : Int)) rfl
     rw [← HJ.out.2] at hr
     exact hr
def bytesD (s : Bytes) : D := .str (bstr s)
def wordD (l : List Part) : D := .sl 103 5 (Part.ds l)
def wordsD (l : List (List Part)) : D := .sl 70 1 (l.map wordD)
def Asg.d (a : Asg) : D := .st [bytesD a.name, wordD a.word]
def Rdr.d (r : Rdr) : D := .st [.int .i64 r.fd, bytesD r.op, wordD r.word]
mutual
def Cmd.d : Cmd → D
 | .mk kind name xs ws cond body other cs rs => .st [.int .i64 kind, bytesD name, .sl 72 2 (xs.map Asg.d), wordsD ws, .sl 39 2 (Lst.ds cond), .sl 39 2 (Lst.ds body), .sl 39 2 (Lst.ds other), .sl 77 2 (Cas.ds cs), .sl 75 3 (rs.map Rdr.d)]
def Cmd.ds : List Cmd → List D
 | [] => []
 | c :: l => Cmd.d c :: Cmd.ds l
def Cas.d : Cas → D
 | .mk ps body => .st [wordsD ps, .sl 39 2 (Lst.ds body)]
def Cas.ds : List Cas → List D
 | [] => []
 | c :: l => Cas.d c :: Cas.ds l
def Pip.d : Pip → D
 | .mk neg cs => .st [.bool neg, .sl 49 9 (Cmd.ds cs)]
def Pip.ds : List Pip → List D
 | [] => []
 | p :: l => Pip.d p :: Pip.ds l
def Lst.d : Lst → D
 | .mk ps os => .st [.sl 42 2 (Pip.ds ps), .sl 9 1 (os.map bytesD)]
def Lst.ds : List Lst → List D
 | [] => []
 | x :: l => Lst.d x :: Lst.ds l
end
def isLists (w : World) (l : List Lst) (v : Value) (w' : World) : Prop := ∃ A c, v = .slice A l.length c ∧ Rep w' (fun k => w.heap.size ≤ k) (.sl 39 2 (Lst.ds l)) [v]
def LsSaid (ls : Bytes → Rs (List Lst)) (d : Nat) (m : Nat) : Prop := ∀ (g : Nat) (s : ByteArray) (r : Bytes) (w : World), ParsR w g s r d → s.size ≤ 8192 → r.length ≤ m →
 Calls Tryz.prog 35 #[.pointer (some ⟨g, 0, none⟩)] w (PPost w g s d (ls r) (isLists w))
set_option maxRecDepth 100000 in
set_option maxHeartbeats 2000000 in
theorem loop_calls (ls : Bytes → Rs (List Lst)) (d : Nat) (m : Nat) (hls : LsSaid ls d m) (g : Nat) (s : ByteArray) (r : Bytes) (w : World) (h : ParsR w g s r d) (hs : s.size ≤ 8192) (hm : ∀ r1, mustP [100, 111] r = .ok () r1 → r1.length ≤ m) :
  Calls Tryz.prog 118 #[.pointer (some ⟨g, 0, none⟩)] w (PPost w g s d (loopP ls r) (isLists w)) := by
 have hT := must_calls g s r d [100, 111] (by simp) w h hs
 generalize hR : loopP ls r = R
 cases h1 : mustP [100, 111] r with
 | err l c =>
  have HR : Hid (R = .err l c) := Lib.hid (by rw [← hR, loopP, h1]; rfl)
  rw [h1] at hT
  clear hR h1 hm hls
  go_enter Tryz.func118, Tryz.ntmps118
  go_wp2_with fail
  refine Calls.mono hT ?_
  rintro e w1 ⟨k, hk, hl, rfl, hC⟩
  have HL := Lib.hid hl; clear hl hT
  go_wp2
  rw [HR.out]
  exact ⟨rfl, k, hk, HL.out, rfl, hC⟩
 | ok u r1 =>
  have HR : Hid (R = (ls r1).bind fun l r2 => (mustP [100, 111, 110, 101] r2).bind fun _ r3 => .ok l r3) := Lib.hid (by rw [← hR, loopP, h1]; rfl)
  have hm1 := hm r1 h1
  rw [h1] at hT
  clear hR h1 hm
  go_enter Tryz.func118, Tryz.ntmps118
  go_wp2_with fail
  refine Calls.mono hT ?_
  rintro e w1 ⟨v, rfl, hv, hP1, hC1⟩
  have hv' : v = .tuple #[] := hv
  subst hv'
  have hL := hls g s r1 w1 hP1 hs hm1
  clear hls hT hv
  cases h2 : ls r1 with
  | err l c =>
   have HR2 : Hid (R = .err l c) := Lib.hid (by rw [HR.out, h2]; rfl)
   rw [h2] at hL
   clear HR h2
   go_wp2_with fail
   refine Calls.mono hL ?_
   rintro e w2 ⟨k, hk, hl, rfl, hC⟩
   have HL := Lib.hid hl; clear hl hL
   go_wp2
   rw [HR2.out]
   exact ⟨rfl, k, hk, HL.out, rfl, hC1.trans hC (fun _ h _ => h)⟩
  | ok l r2 =>
   have HR2 : Hid (R = (mustP [100, 111, 110, 101] r2).bind fun _ r3 => .ok l r3) := Lib.hid (by rw [HR.out, h2]; rfl)
   rw [h2] at hL
   clear HR h2
   go_wp2_with fail
   refine Calls.mono hL ?_
   rintro e w2 ⟨v, rfl, ⟨A, c, rfl, hO⟩, hP2, hC2⟩
   have HO := Lib.hid hO
   have hD := must_calls g s r2 d [100, 111, 110, 101] (by simp) w2 hP2 hs
   have hC3 : Chg (· = g) w w2 := hC1.trans hC2 (fun _ h _ => h)
   have hz := hC1.size
   have hgl := h.lt
   clear hL hO
   cases h3 : mustP [100, 111, 110, 101] r2 with
   | err l3 c3 =>
    have HR3 : Hid (R = .err l3 c3) := Lib.hid (by rw [HR2.out, h3]; rfl)
    rw [h3] at hD
    clear HR2 h3 HO
    go_wp2_with fail
    refine Calls.mono hD ?_
    rintro e w3 ⟨k, hk, hl, rfl, hC⟩
    have HL := Lib.hid hl; clear hl hD
    go_wp2
    rw [HR3.out]
    exact ⟨rfl, k, hk, HL.out, rfl, hC3.trans hC (fun _ h _ => h)⟩
   | ok u r3 =>
    have HR3 : Hid (R = .ok l r3) := Lib.hid (by rw [HR2.out, h3]; rfl)
    rw [h3] at hD
    clear HR2 h3
    go_wp2_with fail
    refine Calls.mono hD ?_
    rintro e w3 ⟨v, rfl, hv, hP3, hC4⟩
    have hv' : v = .tuple #[] := hv
    subst hv'
    clear hD hv
    go_wp2
    go_ret
    rw [HR3.out]
    refine ⟨_, rfl, ⟨A, c, rfl, ?_⟩, hP3, hC3.trans hC4 (fun _ h _ => h)⟩
    exact (HO.out.stay hC4 (fun k hk e => by omega)).mono (fun k hk _ => by omega)
theorem rep_sl {w : World} {S : Nat → Prop} {e sz : Nat} {xs : List D} {cs : List Value} (h : Rep w S (.sl e sz xs) cs) : ∃ v, cs = [v] ∧ Rep w S (.sl e sz xs) [v] := by
 obtain ⟨A, c, inner, rfl, h2⟩ := h
 exact ⟨_, rfl, A, c, inner, rfl, h2⟩
theorem asg_rep {w : World} {S : Nat → Prop} {n : Bytes} {wd : List Part} {cs : List Value} :
  Rep w S (Asg.d ⟨n, wd⟩) cs ↔ ∃ v, cs = [.string (bstr n), v] ∧ Rep w S (wordD wd) [v] := by
 constructor
 ·rintro ⟨_, _, rfl, rfl, _, _, rfl, h, rfl⟩
  obtain ⟨v, rfl, h⟩ := rep_sl h
  exact ⟨v, rfl, h⟩
 ·rintro ⟨v, rfl, h⟩
  exact ⟨_, _, rfl, rfl, [v], [], rfl, h, rfl⟩
theorem rdr_rep {w : World} {S : Nat → Prop} {fd : Int} {o : Bytes} {wd : List Part} {cs : List Value} :
  Rep w S (Rdr.d ⟨fd, o, wd⟩) cs ↔ ∃ v, cs = [.int .i64 fd, .string (bstr o), v] ∧ Rep w S (wordD wd) [v] := by
 constructor
 ·rintro ⟨_, _, rfl, rfl, _, _, rfl, rfl, _, _, rfl, h, rfl⟩
  obtain ⟨v, rfl, h⟩ := rep_sl h
  exact ⟨v, rfl, h⟩
 ·rintro ⟨v, rfl, h⟩
  exact ⟨_, _, rfl, rfl, _, _, rfl, rfl, [v], [], rfl, h, rfl⟩
theorem cmd_rep {w : World} {S : Nat → Prop} {k : Int} {n : Bytes} {xs : List Asg} {ws : List (List Part)} {co bo ot : List Lst} {ca : List Cas} {rs : List Rdr} {cs : List Value} :
  Rep w S (Cmd.d (.mk k n xs ws co bo ot ca rs)) cs ↔ ∃ v1 v2 v3 v4 v5 v6 v7, cs = [.int .i64 k, .string (bstr n), v1, v2, v3, v4, v5, v6, v7] ∧ Rep w S (.sl 72 2 (xs.map Asg.d)) [v1] ∧ Rep w S (wordsD ws) [v2] ∧ Rep w S (.sl 39 2 (Lst.ds co)) [v3] ∧
   Rep w S (.sl 39 2 (Lst.ds bo)) [v4] ∧ Rep w S (.sl 39 2 (Lst.ds ot)) [v5] ∧ Rep w S (.sl 77 2 (Cas.ds ca)) [v6] ∧ Rep w S (.sl 75 3 (rs.map Rdr.d)) [v7] := by
 rw [Cmd.d]
 constructor
 ·rintro ⟨_, _, rfl, rfl, _, _, rfl, rfl, _, _, rfl, h1, _, _, rfl, h2, _, _, rfl, h3, _, _, rfl, h4, _, _, rfl, h5, _, _, rfl, h6, _, _, rfl, h7, rfl⟩
  obtain ⟨v1, rfl, h1⟩ := rep_sl h1
  obtain ⟨v2, rfl, h2⟩ := rep_sl h2
  obtain ⟨v3, rfl, h3⟩ := rep_sl h3
  obtain ⟨v4, rfl, h4⟩ := rep_sl h4
  obtain ⟨v5, rfl, h5⟩ := rep_sl h5
  obtain ⟨v6, rfl, h6⟩ := rep_sl h6
  obtain ⟨v7, rfl, h7⟩ := rep_sl h7
  exact ⟨v1, v2, v3, v4, v5, v6, v7, rfl, h1, h2, h3, h4, h5, h6, h7⟩
 ·rintro ⟨v1, v2, v3, v4, v5, v6, v7, rfl, h1, h2, h3, h4, h5, h6, h7⟩
  exact ⟨_, _, rfl, rfl, _, _, rfl, rfl, [v1], _, rfl, h1, [v2], _, rfl, h2, [v3], _, rfl, h3, [v4], _, rfl, h4, [v5], _, rfl, h5, [v6], _, rfl, h6, [v7], [], rfl, h7, rfl⟩
theorem Lst.ds_map : ∀ l : List Lst, Lst.ds l = l.map Lst.d
 | [] => by rw [Lst.ds]; rfl
 | x :: l => by rw [Lst.ds, Lst.ds_map l]; rfl
theorem Pip.ds_map : ∀ l : List Pip, Pip.ds l = l.map Pip.d
 | [] => by rw [Pip.ds]; rfl
 | x :: l => by rw [Pip.ds, Pip.ds_map l]; rfl
theorem Cmd.ds_map : ∀ l : List Cmd, Cmd.ds l = l.map Cmd.d
 | [] => by rw [Cmd.ds]; rfl
 | x :: l => by rw [Cmd.ds, Cmd.ds_map l]; rfl
theorem Cas.ds_map : ∀ l : List Cas, Cas.ds l = l.map Cas.d
 | [] => by rw [Cas.ds]; rfl
 | x :: l => by rw [Cas.ds, Cas.ds_map l]; rfl
theorem rep_nil (w : World) (S : Nat → Prop) (e sz : Nat) : Rep w S (.sl e sz []) [.slice none 0 0] := ⟨none, 0, [], rfl, Nat.le_refl _, by simp [maxLen], by intro j u hj; simp at hj, rfl⟩
def isCmd (w : World) (c : Cmd) (v : Value) (w' : World) : Prop := ∃ cs, v = .agg cs.toArray ∧ Rep w' (fun k => w.heap.size ≤ k) (Cmd.d c) cs
def IsCut (s : ByteArray) (v : Value) : Prop := match idx 61 s.data.toList with
 | none => v = .tuple #[.string s, .string ⟨#[]⟩, .bool false]
 | some i => ∃ x y : ByteArray, v = .tuple #[.string x, .string y, .bool true] ∧ x.data.toList = s.data.toList.take i ∧ y.data.toList = s.data.toList.drop (i + 1)
theorem slcut_calls (s : ByteArray) (w : World) (hs : s.size ≤ 20000) :
  Calls Tryz.prog 165 #[.string s, .string ⟨#[61]⟩] w fun e w' => (∃ v, e = .returned v ∧ IsCut s v) ∧ ∃ n, w' = w.drewN n := by
 have hI := Tryz.stringslite_Index_one s 61 w
 rw [indexByte_idx] at hI
 unfold IsCut
 revert hI
 cases h : idx 61 s.data.toList with
 | none =>
  intro hI
  go_enter Tryz.func165, Tryz.ntmps165
  go_wp2_with (go_at_call 174; refine hI.mono ?_; rintro e w' ⟨rfl, rfl⟩)
  refine bodyPost_ret (v := .tuple #[.string s, .string ⟨#[]⟩, .bool false]) (by simp [results, Tryz.results165, go_sem]) rfl ?_
  exact ⟨⟨_, rfl, rfl⟩, 0, rfl⟩
 | some i =>
  intro hI
  have hi := idx_lt 61 _ i h
  simp at hi
  have q1 : (0 : Int) ≤ (i : Int) := by omega
  have q2 : (i : Int) ≤ (s.size : Int) := by have : i < s.size := hi; omega
  have q3 : IntKind.i64.wrap ((i : Int) + 1) = (i : Int) + 1 := IntWalk.i64_in _ (by have : i < s.size := hi; omega)
  have q4 : (i : Int) + 1 ≤ (s.size : Int) := by have : i < s.size := hi; omega
  have q5 : (0 : Int) ≤ (i : Int) + 1 := by omega
  clear h
  go_enter Tryz.func165, Tryz.ntmps165
  go_wp2_with (go_at_call 174; refine hI.mono ?_; rintro e w' ⟨rfl, rfl⟩)
  go_quiet (fail)
  go_wp2
  refine bodyPost_ret (v := .tuple #[.string (s.extract 0 i), .string (s.extract (i + 1) s.size), .bool true]) (by simp [results, Tryz.results165, go_sem]) rfl ?_
  exact ⟨⟨_, rfl, _, _, rfl, by simp [ByteArray.data_extract], by simp [ByteArray.data_extract]; rw [List.take_of_length_le]; simp⟩, _, rfl⟩
theorem cut_calls (s : ByteArray) (w : World) (hs : s.size ≤ 20000) :
  Calls Tryz.prog 148 #[.string s, .string ⟨#[61]⟩] w fun e w' => (∃ v, e = .returned v ∧ IsCut s v) ∧ ∃ n, w' = w.drewN n := by
 have hI := slcut_calls s w hs
 revert hI
 unfold IsCut
 cases h : idx 61 s.data.toList with
 | none =>
  intro hI
  go_enter Tryz.func148, Tryz.ntmps148
  go_wp2_with fail
  refine hI.mono ?_
  rintro e w' ⟨⟨v, rfl, rfl⟩, n, rfl⟩
  go_wp2
  refine bodyPost_ret (v := .tuple #[.string s, .string ⟨#[]⟩, .bool false]) (by simp [results, Tryz.results148, go_sem]) rfl ?_
  exact ⟨⟨_, rfl, rfl⟩, n, rfl⟩
 | some i =>
  intro hI
  go_enter Tryz.func148, Tryz.ntmps148
  go_wp2_with fail
  refine hI.mono ?_
  rintro e w' ⟨⟨v, rfl, x, y, rfl, hx, hy⟩, n, rfl⟩
  have HX := Lib.hid hx
  have HY := Lib.hid hy
  clear hx hy hI h
  go_wp2
  refine bodyPost_ret (v := .tuple #[.string x, .string y, .bool true]) (by simp [results, Tryz.results148, go_sem]) rfl ?_
  exact ⟨⟨_, rfl, x, y, rfl, HX.out, HY.out⟩, n, rfl⟩
theorem info_Assign : (Tryz.prog.info? 72).map (fun i => (i.zero, i.size, i.bytes)) = some (some (.agg #[.string ⟨#[]⟩, .slice none 0 0]), 2, 40) := by kernel_rfl
theorem info_Redir : (Tryz.prog.info? 75).map (fun i => (i.zero, i.size, i.bytes)) = some (some (.agg #[.int .i64 0, .string ⟨#[]⟩, .slice none 0 0]), 3, 48) := by kernel_rfl
theorem info_Case : (Tryz.prog.info? 77).map (fun i => (i.zero, i.size, i.bytes)) = some (some (.agg #[.slice none 0 0, .slice none 0 0]), 2, 48) := by kernel_rfl
theorem info_Cmd : (Tryz.prog.info? 49).map (fun i => (i.zero, i.size, i.bytes)) = some (some (.agg #[.int .i64 0, .string ⟨#[]⟩, .slice none 0 0, .slice none 0 0, .slice none 0 0, .slice none 0 0, .slice none 0 0, .slice none 0 0, .slice none 0 0]), 9, 192) := by kernel_rfl
theorem info_Pipe : (Tryz.prog.info? 42).map (fun i => (i.zero, i.size, i.bytes)) = some (some (.agg #[.bool false, .slice none 0 0]), 2, 32) := by kernel_rfl
theorem info_List : (Tryz.prog.info? 39).map (fun i => (i.zero, i.size, i.bytes)) = some (some (.agg #[.slice none 0 0, .slice none 0 0]), 2, 48) := by kernel_rfl
theorem info_Parts : (Tryz.prog.info? 70).map (fun i => (i.zero, i.size, i.bytes)) = some (some (.slice none 0 0), 1, 24) := by kernel_rfl
theorem info_string : (Tryz.prog.info? 9).map (fun i => (i.zero, i.size, i.bytes)) = some (some (.string ⟨#[]⟩), 1, 16) := by kernel_rfl
theorem lst_rep {w : World} {S : Nat → Prop} {ps : List Pip} {os : List Bytes} {cs : List Value} :
  Rep w S (Lst.d (.mk ps os)) cs ↔ ∃ v1 v2, cs = [v1, v2] ∧ Rep w S (.sl 42 2 (Pip.ds ps)) [v1] ∧ Rep w S (.sl 9 1 (os.map bytesD)) [v2] := by
 rw [Lst.d]
 constructor
 ·rintro ⟨_, _, rfl, h1, _, _, rfl, h2, rfl⟩
  obtain ⟨v1, rfl, h1⟩ := rep_sl h1
  obtain ⟨v2, rfl, h2⟩ := rep_sl h2
  exact ⟨v1, v2, rfl, h1, h2⟩
 ·rintro ⟨v1, v2, rfl, h1, h2⟩
  exact ⟨[v1], _, rfl, h1, [v2], [], rfl, h2, rfl⟩
theorem pip_rep {w : World} {S : Nat → Prop} {neg : Bool} {l : List Cmd} {cs : List Value} :
  Rep w S (Pip.d (.mk neg l)) cs ↔ ∃ v, cs = [.bool neg, v] ∧ Rep w S (.sl 49 9 (Cmd.ds l)) [v] := by
 rw [Pip.d]
 constructor
 ·rintro ⟨_, _, rfl, rfl, _, _, rfl, h2, rfl⟩
  obtain ⟨v2, rfl, h2⟩ := rep_sl h2
  exact ⟨v2, rfl, h2⟩
 ·rintro ⟨v2, rfl, h2⟩
  exact ⟨_, _, rfl, rfl, [v2], [], rfl, h2, rfl⟩
theorem cas_rep {w : World} {S : Nat → Prop} {ps : List (List Part)} {l : List Lst} {cs : List Value} :
  Rep w S (Cas.d (.mk ps l)) cs ↔ ∃ v1 v2, cs = [v1, v2] ∧ Rep w S (wordsD ps) [v1] ∧ Rep w S (.sl 39 2 (Lst.ds l)) [v2] := by
 rw [Cas.d]
 constructor
 ·rintro ⟨_, _, rfl, h1, _, _, rfl, h2, rfl⟩
  obtain ⟨v1, rfl, h1⟩ := rep_sl h1
  obtain ⟨v2, rfl, h2⟩ := rep_sl h2
  exact ⟨v1, v2, rfl, h1, h2⟩
 ·rintro ⟨v1, v2, rfl, h1, h2⟩
  exact ⟨[v1], _, rfl, h1, [v2], [], rfl, h2, rfl⟩
def isPip (w : World) (c : Pip) (v : Value) (w' : World) : Prop := ∃ cs, v = .agg cs.toArray ∧ Rep w' (fun k => w.heap.size ≤ k) (Pip.d c) cs
def isLst (w : World) (c : Lst) (v : Value) (w' : World) : Prop := ∃ cs, v = .agg cs.toArray ∧ Rep w' (fun k => w.heap.size ≤ k) (Lst.d c) cs
end Go.Proofs.YtdfnkmiabmjolaaGreatDoor
