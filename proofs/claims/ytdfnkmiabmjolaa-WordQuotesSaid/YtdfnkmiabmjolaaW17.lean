/- Walks of package word: Scan. -/
import Derived.Test.YtdfnkmiabmjolaaW16
namespace Go.Proofs.Ytdfnkmiabmjolaa
open Go.RowKit
set_option linter.unusedVariables false
set_option linter.unusedSimpArgs false

def ScanEnd (w : World) (s : ByteArray) (R : Rs (List Part)) (e : Ending) (w' : World) : Prop :=
  Chg (fun _ => False) w w' ∧ match R with
    | .ok l rest => ∃ v, e = .returned (.tuple #[v, .int .i64 (s.size - rest.length : Nat), .int .i64 0]) ∧ (rest.length ≤ s.size ∧ rest = s.data.toList.drop (s.size - rest.length)) ∧ Own w' (fun j => w.heap.size ≤ j) 35 5 v (Part.ds l)
    | .err left c => e = .returned (.tuple #[.slice none 0 0, .int .i64 (s.size - left : Nat), .int .i64 c]) ∧ left ≤ s.size

set_option maxRecDepth 100000 in
set_option maxHeartbeats 2000000 in
theorem Scan_bad (s : ByteArray) (x : Int) (w : World) (hx : x < 0 ∨ s.size < x ∨ 8192 < s.size) :
    Calls Try.prog 11 #[.string s, .int .i64 x] w fun e w' => e = .returned (.tuple #[.slice none 0 0, .int .i64 0, .int .i64 1]) ∧ Chg (fun _ => False) w w' := by
  have h1 : decide (x < 0) = true ∨ (decide (x < 0) = false ∧ (decide ((s.size : Int) < x) = true ∨ (decide ((s.size : Int) < x) = false ∧ decide ((8192 : Int) < (s.size : Int)) = true))) := by
    simp only [decide_eq_true_eq, decide_eq_false_iff_not]; omega
  clear hx
  have hn : ¬ w.heap.size < w.heap.size := by omega
  rcases h1 with h1 | ⟨h1, h2 | ⟨h2, h3⟩⟩
  all_goals
    go_enter_defers Try.func11, Try.ntmps11
    go_wp2
    simp [bodyPostD, Leaves, results, Try.results11, go_sem]
    exact (((Chg.refl (fun _ => False) w).alloc _).alloc _).alloc _

set_option maxRecDepth 100000 in
set_option maxHeartbeats 2000000 in
theorem Scan_calls (s : ByteArray) (a : Nat) (w : World) (ha : a ≤ s.size) (hs : s.size ≤ 8192) :
    Calls Try.prog 11 #[.string s, .int .i64 a] w (ScanEnd w s (scan (s.data.toList.drop a))) := by
  have hmf : ∀ (fn : Fn) (first cap : Array Value) (w : World), (Instr.makeFunc fn first cap).run Try.prog w = .ok (.func fn first cap) w := fun _ _ _ _ => rfl
  have e1 : decide ((a : Int) < 0) = false := by simp
  have e2 : decide ((s.size : Int) < (a : Int)) = false := by simp; omega
  have e3 : decide ((8192 : Int) < (s.size : Int)) = false := by simp; omega
  generalize hR : scan (s.data.toList.drop a) = R
  have HR := Lib.hid hR; clear hR
  go_enter_defers Try.func11, Try.ntmps11
  go_wp2_with fail
  have c0 := row_new w (.cells #[.slice none 0 0] 24)
  have hA : ScanAt ((((w.alloc (Obj.cells #[Value.slice none 0 0] 24)).alloc (Obj.cells #[Value.int IntKind.i64 0] 3)).alloc (Obj.cells #[Value.int IntKind.i64 0] 25)).alloc (Obj.cells #[Value.string s, Value.int IntKind.i64 a, Value.int IntKind.i64 0] 60)) (w.heap.size + 1 + 1 + 1) s a 0 := by
    have := row_new (((w.alloc (Obj.cells #[Value.slice none 0 0] 24)).alloc (Obj.cells #[Value.int IntKind.i64 0] 3)).alloc (Obj.cells #[Value.int IntKind.i64 0] 25)) (Obj.cells #[Value.string s, Value.int IntKind.i64 a, Value.int IntKind.i64 0] 60)
    unfold ScanAt
    simpa using this
  have c1 : ((w.alloc (Obj.cells #[Value.slice none 0 0] 24)).alloc (Obj.cells #[Value.int IntKind.i64 0] 3)).heap[w.heap.size + 1]? = some (Obj.cells #[Value.int IntKind.i64 0] 3) := by
    have := row_new (w.alloc (Obj.cells #[Value.slice none 0 0] 24)) (Obj.cells #[Value.int IntKind.i64 0] 3)
    simpa using this
  have c2 : (((w.alloc (Obj.cells #[Value.slice none 0 0] 24)).alloc (Obj.cells #[Value.int IntKind.i64 0] 3)).alloc (Obj.cells #[Value.int IntKind.i64 0] 25)).heap[w.heap.size + 2]? = some (Obj.cells #[Value.int IntKind.i64 0] 25) := by
    have := row_new ((w.alloc (Obj.cells #[Value.slice none 0 0] 24)).alloc (Obj.cells #[Value.int IntKind.i64 0] 3)) (Obj.cells #[Value.int IntKind.i64 0] 25)
    simpa using this
  have d0 := row_alloc (row_alloc (row_alloc c0 (Obj.cells #[Value.int IntKind.i64 0] 3)) (Obj.cells #[Value.int IntKind.i64 0] 25)) (Obj.cells #[Value.string s, Value.int IntKind.i64 a, Value.int IntKind.i64 0] 60)
  have d1 := row_alloc (row_alloc c1 (Obj.cells #[Value.int IntKind.i64 0] 25)) (Obj.cells #[Value.string s, Value.int IntKind.i64 a, Value.int IntKind.i64 0] 60)
  have d2 := row_alloc c2 (Obj.cells #[Value.string s, Value.int IntKind.i64 a, Value.int IntKind.i64 0] 60)
  have hC := ((((Chg.refl (fun _ => False) w).alloc (Obj.cells #[Value.slice none 0 0] 24)).alloc (Obj.cells #[Value.int IntKind.i64 0] 3)).alloc (Obj.cells #[Value.int IntKind.i64 0] 25)).alloc (Obj.cells #[Value.string s, Value.int IntKind.i64 a, Value.int IntKind.i64 0] 60)
  clear c0 c1 c2
  refine (word_calls _ (w.heap.size + 1 + 1 + 1) s a hA ha hs).mono ?_
  intro e w1 hpost
  rw [HR.out] at hpost
  cases R with
  | err left c =>
    obtain ⟨k, hk, hl, rfl, hC1⟩ := hpost
    have r0 := row_chg d0 hC1 (by simp; omega)
    have r1 := row_chg d1 hC1 (by simp)
    have r2 := row_chg d2 hC1 (by simp)
    have hC2 := hC.trans hC1 (fun j h hl => by simp at h; omega)
    clear d0 d1 d2 hC hC1 hA
    refine leaves_cons (f := 26) (args := #[.pointer (some ⟨w.heap.size, 0, none⟩), .pointer (some ⟨w.heap.size + 1, 0, none⟩), .pointer (some ⟨w.heap.size + 2, 0, none⟩)]) (by simp) (by simp [go_sem]) ?_
    refine (catch_fault w.heap.size _ _ _ k c w1 _ _ _ r0 r1 r2).mono ?_
    rintro e u' w2 ⟨rfl, rfl, f0, f1, f2, hC3⟩
    simp [Leaves, settle, results, Try.results11, go_sem, f0, f1, f2]
    refine ⟨hC2.trans hC3 (fun j h hl => by have := h.1; omega), ?_, by omega⟩
    rw [show s.size - left = k by omega]
  | ok l rest =>
    obtain ⟨v, k, rfl, hk, rfl, hO, hA1, hC1⟩ := hpost
    have r0 := row_chg d0 hC1 (by simp; omega)
    have r1 := row_chg d1 hC1 (by simp)
    have r2 := row_chg d2 hC1 (by simp)
    have hC2 := hC.trans hC1 (fun j h hl => by simp at h; omega)
    clear d0 d1 d2 hC hC1 hA
    obtain ⟨k0, k1, k2, kf1, _, kgl⟩ := hA1.cells
    have hgr := row_lt hA1
    have p0 := row_cells r0
    have p1 := row_cells r1
    have p2 := row_cells r2
    have q0 := row_free r0
    have q1 := row_free r1
    have q2 := row_free r2
    obtain ⟨A, c, rfl, _, _⟩ := Own.form hO
    have m1 : ¬ w.heap.size + 1 + 1 + 1 = w.heap.size := by omega
    have m2 : ¬ w.heap.size = w.heap.size + 1 + 1 + 1 := by omega
    have R0 := Lib.hid r0; clear r0
    have R1 := Lib.hid r1; clear r1
    have R2 := Lib.hid r2; clear r2
    have m3 : ¬ w.heap.size + 1 + 1 + 1 = w.heap.size + 1 := by omega
    have m4 : ¬ w.heap.size + 1 + 1 + 1 = w.heap.size + 2 := by omega
    have m5 : ¬ w.heap.size + 1 = w.heap.size + 1 + 1 + 1 := by omega
    have m6 : ¬ w.heap.size + 2 = w.heap.size + 1 + 1 + 1 := by omega
    have m7 : ¬ w.heap.size = w.heap.size + 1 + 1 := by omega
    have m8 : ¬ w.heap.size + 1 + 1 = w.heap.size := by omega
    have m9 : ¬ w.heap.size + 1 + 1 + 1 = w.heap.size + 1 + 1 := by omega
    have m10 : ¬ w.heap.size + 1 + 1 = w.heap.size + 1 + 1 + 1 := by omega
    go_wp2
    have s0 := row_set R0.out 0 (.slice A (Part.ds l).length c)
    have s1 := row_far R1.out (p := ⟨w.heap.size, 0, none⟩) (by simp) (.slice A (Part.ds l).length c)
    have s2 := row_far R2.out (p := ⟨w.heap.size, 0, none⟩) (by simp) (.slice A (Part.ds l).length c)
    have s3 := row_far hA1 (p := ⟨w.heap.size, 0, none⟩) m1 (.slice A (Part.ds l).length c)
    have hC4 := hC2.setCell (p := ⟨w.heap.size, 0, none⟩) (fun h => absurd h (by simp)) (.slice A (Part.ds l).length c)
    have hO4 := (Own.mono hO (S' := fun j => w.heap.size + 3 ≤ j) (fun j h _ => h.elim (fun h => h.elim) (fun h => by simp at h; omega))).stay ((Chg.refl (fun j => j ≤ w.heap.size + 2) _).setCell (p := ⟨w.heap.size, 0, none⟩) (fun _ => by simp) (.slice A (Part.ds l).length c)) (fun j h e => by omega)
    clear p0 p1 p2 q0 q1 q2 k0 k1 k2 kf1 hO hA1 R0 R1 R2 hC2 kgl hgr
    revert s0 s1 s2 s3 hC4 hO4
    generalize w1.setCell ⟨w.heap.size, 0, none⟩ (.slice A (Part.ds l).length c) = wa
    intro s0 s1 s2 s3 hC4 hO4
    obtain ⟨k0, k1, k2, kf1, _, kgl⟩ := ScanAt.cells s3
    have p0 := row_cells s0
    have p1 := row_cells s1
    have p2 := row_cells s2
    have q0 := row_free s0
    have q1 := row_free s1
    have q2 := row_free s2
    have z0 : (wa.setCell ⟨w.heap.size, 0, none⟩ (.slice A (Part.ds l).length c)).cell? ⟨w.heap.size, 0, none⟩ = some (.slice A (Part.ds l).length c) := row_cells (row_set s0 0 (.slice A (Part.ds l).length c)) 0
    have z1 : (wa.setCell ⟨w.heap.size, 0, none⟩ (.slice A (Part.ds l).length c)).cell? ⟨w.heap.size + 1 + 1 + 1, 1, none⟩ = some (.int .i64 k) := row_cells (row_far s3 (p := ⟨w.heap.size, 0, none⟩) m1 _) 1
    go_region_held3 (fun w' => w'.cell? ⟨w.heap.size, 0, none⟩ = some (.slice A (Part.ds l).length c) ∧ w'.cell? ⟨w.heap.size + 1 + 1 + 1, 1, none⟩ = some (.int .i64 k)) (first | go_keep | (go_split_ands; exact ⟨z0, z1⟩)) (fail)
    have f0 : (((wa.setCell ⟨w.heap.size, 0, none⟩ (.slice A (Part.ds l).length c)).setCell ⟨w.heap.size + 1, 0, none⟩ (.int .i64 k)).setCell ⟨w.heap.size + 1 + 1, 0, none⟩ (.int .i64 0)).drew.cell? ⟨w.heap.size, 0, none⟩ = some (.slice A (Part.ds l).length c) := row_cells (row_far (row_far (row_set s0 0 _) (p := ⟨w.heap.size + 1, 0, none⟩) (by simp) _) (p := ⟨w.heap.size + 1 + 1, 0, none⟩) m7 _) 0
    have f1 : (((wa.setCell ⟨w.heap.size, 0, none⟩ (.slice A (Part.ds l).length c)).setCell ⟨w.heap.size + 1, 0, none⟩ (.int .i64 k)).setCell ⟨w.heap.size + 1 + 1, 0, none⟩ (.int .i64 0)).drew.cell? ⟨w.heap.size + 1, 0, none⟩ = some (.int .i64 k) := row_cells (row_far (row_set (row_far s1 (p := ⟨w.heap.size, 0, none⟩) (by simp) _) 0 _) (p := ⟨w.heap.size + 1 + 1, 0, none⟩) (by simp) _) 0
    have f2 : (((wa.setCell ⟨w.heap.size, 0, none⟩ (.slice A (Part.ds l).length c)).setCell ⟨w.heap.size + 1, 0, none⟩ (.int .i64 k)).setCell ⟨w.heap.size + 1 + 1, 0, none⟩ (.int .i64 0)).drew.cell? ⟨w.heap.size + 2, 0, none⟩ = some (.int .i64 0) := row_cells (row_set (row_far (row_far s2 (p := ⟨w.heap.size, 0, none⟩) (by simp) _) (p := ⟨w.heap.size + 1, 0, none⟩) (by simp) _) 0 _) 0
    have hC5 : Chg (fun _ => False) w (((wa.setCell ⟨w.heap.size, 0, none⟩ (.slice A (Part.ds l).length c)).setCell ⟨w.heap.size + 1, 0, none⟩ (.int .i64 k)).setCell ⟨w.heap.size + 1 + 1, 0, none⟩ (.int .i64 0)).drew := (((hC4.setCell (p := ⟨w.heap.size, 0, none⟩) (fun h => absurd h (by simp)) _).setCell (p := ⟨w.heap.size + 1, 0, none⟩) (fun h => absurd h (by simp)) _).setCell (p := ⟨w.heap.size + 1 + 1, 0, none⟩) (fun h => absurd h (by simp; omega)) _).drew
    have hO5 : Own (((wa.setCell ⟨w.heap.size, 0, none⟩ (.slice A (Part.ds l).length c)).setCell ⟨w.heap.size + 1, 0, none⟩ (.int .i64 k)).setCell ⟨w.heap.size + 1 + 1, 0, none⟩ (.int .i64 0)).drew (fun j => w.heap.size ≤ j) 35 5 (.slice A (Part.ds l).length c) (Part.ds l) := (hO4.stay ((((Chg.refl (fun j => j ≤ w.heap.size + 2) _).setCell (p := ⟨w.heap.size, 0, none⟩) (fun _ => by simp) _).setCell (p := ⟨w.heap.size + 1, 0, none⟩) (fun _ => by simp) _).setCell (p := ⟨w.heap.size + 1 + 1, 0, none⟩) (fun _ => by simp) _).drew (fun j h e => by omega)).mono (fun j h _ => by omega)
    clear p0 p1 p2 q0 q1 q2 k0 k1 k2 kf1 z0 z1 s0 s1 s2 s3 hC4 hO4
    rename_i hHeld
    clear hHeld
    revert f0 f1 f2 hC5 hO5
    generalize (((wa.setCell ⟨w.heap.size, 0, none⟩ (.slice A (Part.ds l).length c)).setCell ⟨w.heap.size + 1, 0, none⟩ (.int .i64 k)).setCell ⟨w.heap.size + 1 + 1, 0, none⟩ (.int .i64 0)).drew = wb
    intro f0 f1 f2 hC5 hO5
    go_wp2
    refine leaves_cons (f := 26) (args := #[.pointer (some ⟨w.heap.size, 0, none⟩), .pointer (some ⟨w.heap.size + 1, 0, none⟩), .pointer (some ⟨w.heap.size + 2, 0, none⟩)]) (by simp) (by simp [go_sem]) ?_
    refine (catch_idle _ _ _ _).mono ?_
    rintro e u' w2 ⟨rfl, rfl, rfl⟩
    simp [Leaves, settle, results, Try.results11, go_sem, f0, f1, f2]
    refine ⟨hC5, _, ?_, ?_, hO5⟩
    · rw [drop_len, show s.size - (s.size - k) = k by omega]
    · rw [drop_len]
      exact ⟨by omega, by rw [show s.size - (s.size - k) = k by omega]⟩
end Go.Proofs.Ytdfnkmiabmjolaa
