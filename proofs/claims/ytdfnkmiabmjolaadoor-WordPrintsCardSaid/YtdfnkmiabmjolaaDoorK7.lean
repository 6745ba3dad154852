/- Walks of package word: Scan, and how it catches its faults. Walks of package word: Scan. Walks of the reference's Same. How great words are told to be, in plain Lean. Walk of the reference's Size. Walks of package word's writing: what is written, whatever the parts; the comparison of words. Plain laws of package word: where a word ends; that a fault has a number. Walk of package word's Print. Walk of the reference's Text. What the reference's Scan computes, in plain Lean; it is what the program's computes. No program is in sight. The reference's Scan and the program's are one function. Plain Lean. How great what the reference reads is. append of a whole slice to a row of the call's own. Walks of the laws of words: the chapter's example. Walks of the reference's smaller functions of words. -/
import Derived.Test.YtdfnkmiabmjolaaDoorK6
import Derived.Defers
import Derived.Recover
namespace Go.Proofs.YtdfnkmiabmjolaaDoor
open Go.RowKit
set_option linter.unusedVariables false
set_option linter.unusedSimpArgs false

theorem catch_idle (p q r : Addr) (w : World) :
    CallsD Tryd.prog 14 #[.pointer (some p), .pointer (some q), .pointer (some r)] .returning w fun e u' w' => e = .returned (.tuple #[]) ∧ u' = .returning ∧ w' = w := by
  refine callsD_of_wpS Tryd.func14 rfl fun c₀ cs hu => ?_
  apply wpS_seq
  apply wpS_region
  simp [wpOpsS, go_sem, recoverD, hu, Tryd.ntmps14, Exit.thenS]
  refine wpS_of_wp ?_
  go_wp2
  cases c₀
  simp_all [bodyPostS, results, Tryd.results14]

theorem assert_fault (v : Value) (w : World) : (Instr.typeAssert (.iface 40 v) 20 40 true).run Tryd.prog w = .ok (.tuple #[v, .bool true]) w := by kernel_rfl

set_option pp.deepTerms true in
set_option pp.maxSteps 200000 in
set_option maxRecDepth 100000 in
set_option maxHeartbeats 2000000 in
theorem catch_fault (h : Nat) (vp vq vr : Value) (k c : Int) (w : World) (t1 t2 t3 : TypeId) (hp : w.heap[h]? = some (.cells #[vp] t1)) (hq : w.heap[h + 1]? = some (.cells #[vq] t2)) (hr : w.heap[h + 2]? = some (.cells #[vr] t3)) :
    CallsD Tryd.prog 14 #[.pointer (some ⟨h, 0, none⟩), .pointer (some ⟨h + 1, 0, none⟩), .pointer (some ⟨h + 2, 0, none⟩)] (.panicking [{ v := .iface 40 (.agg #[.int .i64 k, .int .i64 c]), recovered := false }]) w fun e u' w' =>
      e = .returned (.tuple #[]) ∧ u' = .panicking [{ v := .iface 40 (.agg #[.int .i64 k, .int .i64 c]), recovered := true }] ∧
      w'.cell? ⟨h, 0, none⟩ = some (.slice none 0 0) ∧ w'.cell? ⟨h + 1, 0, none⟩ = some (.int .i64 k) ∧ w'.cell? ⟨h + 2, 0, none⟩ = some (.int .i64 c) ∧ Chg (fun j => h ≤ j ∧ j ≤ h + 2) w w' := by
  have hh := row_lt hr
  refine callsD_of_wpS Tryd.func14 rfl fun c₀ cs hu => ?_
  apply wpS_seq
  apply wpS_region
  simp [wpOpsS, go_sem, recoverD, hu, Tryd.ntmps14, Exit.thenS]
  refine wpS_of_wp ?_
  change Code.wp _ _ _ { tmps := #[.pointer (some ⟨h, 0, none⟩), .pointer (some ⟨h + 1, 0, none⟩), .pointer (some ⟨h + 2, 0, none⟩), undef, undef, undef, .iface 40 (.agg #[.int .i64 k, .int .i64 c]), undef, undef, undef, undef, undef, undef, undef, undef, undef], defers := [] } w
  have has := assert_fault (.agg #[.int .i64 k, .int .i64 c])
  have n1 : ¬ w.heap.size = h := by omega
  have n2 : ¬ w.heap.size = h + 1 := by omega
  have n3 : ¬ w.heap.size = h + 2 := by omega
  have n4 : ¬ h = w.heap.size := by omega
  have n5 : ¬ h + 1 = w.heap.size := by omega
  have n6 : ¬ h + 2 = w.heap.size := by omega
  have hA := row_new w (.cells #[.int .i64 k, .int .i64 c] 40)
  have hp' := row_alloc hp (.cells #[.int .i64 k, .int .i64 c] 40)
  have hq' := row_alloc hq (.cells #[.int .i64 k, .int .i64 c] 40)
  have hr' := row_alloc hr (.cells #[.int .i64 k, .int .i64 c] 40)
  have hC : Chg (fun j => h ≤ j ∧ j ≤ h + 2) w (w.alloc (.cells #[.int .i64 k, .int .i64 c] 40)) := (Chg.refl _ _).alloc _
  go_wp2
  revert hA hp' hq' hr' hC
  generalize w.alloc (.cells #[.int .i64 k, .int .i64 c] 40) = wa
  intro hA hp' hq' hr' hC
  clear hp hq hr
  have a0 := row_cells hA
  have p0 := row_cells hp'
  have q0 := row_cells hq'
  have r0 := row_cells hr'
  have p1 := row_free hp'
  have q1 := row_free hq'
  have r1 := row_free hr'
  go_region_held3 (fun w' => w'.cell? ⟨w.heap.size, 0, none⟩ = some (.int .i64 k) ∧ w'.cell? ⟨w.heap.size, 1, none⟩ = some (.int .i64 c)) (go_keep) (fail)
  have n7 : ¬ h = h + 1 := by omega
  have n8 : ¬ h = h + 2 := by omega
  have g0 := row_far (row_far (row_set hp' 0 (.slice none 0 0)) (p := ⟨h + 1, 0, none⟩) n7 (.int .i64 k)) (p := ⟨h + 2, 0, none⟩) n8 (.int .i64 c)
  have g1 := row_far (row_set (row_far hq' (p := ⟨h, 0, none⟩) (by simp) (.slice none 0 0)) 0 (.int .i64 k)) (p := ⟨h + 2, 0, none⟩) (by simp) (.int .i64 c)
  have g2 := row_set (row_far (row_far hr' (p := ⟨h, 0, none⟩) (by simp) (.slice none 0 0)) (p := ⟨h + 1, 0, none⟩) (by simp) (.int .i64 k)) 0 (.int .i64 c)
  have hC3 := (((hC.setCell (p := ⟨h, 0, none⟩) (fun _ => by simp) (.slice none 0 0)).setCell (p := ⟨h + 1, 0, none⟩) (fun _ => by simp) (.int .i64 k)).setCell (p := ⟨h + 2, 0, none⟩) (fun _ => by simp) (.int .i64 c)).drew
  have f0 : (((wa.setCell ⟨h, 0, none⟩ (.slice none 0 0)).setCell ⟨h + 1, 0, none⟩ (.int .i64 k)).setCell ⟨h + 2, 0, none⟩ (.int .i64 c)).drew.cell? ⟨h, 0, none⟩ = some (.slice none 0 0) := row_cells g0 0
  have f1 : (((wa.setCell ⟨h, 0, none⟩ (.slice none 0 0)).setCell ⟨h + 1, 0, none⟩ (.int .i64 k)).setCell ⟨h + 2, 0, none⟩ (.int .i64 c)).drew.cell? ⟨h + 1, 0, none⟩ = some (.int .i64 k) := row_cells g1 0
  have f2 : (((wa.setCell ⟨h, 0, none⟩ (.slice none 0 0)).setCell ⟨h + 1, 0, none⟩ (.int .i64 k)).setCell ⟨h + 2, 0, none⟩ (.int .i64 c)).drew.cell? ⟨h + 2, 0, none⟩ = some (.int .i64 c) := row_cells g2 0
  clear p0 q0 r0 p1 q1 r1 a0 hA hp' hq' hr' hC
  revert f0 f1 f2 hC3
  generalize (((wa.setCell ⟨h, 0, none⟩ (.slice none 0 0)).setCell ⟨h + 1, 0, none⟩ (.int .i64 k)).setCell ⟨h + 2, 0, none⟩ (.int .i64 c)).drew = wb
  intro f0 f1 f2 hC3
  go_wp2
  cases c₀
  simp only at hu
  subst hu
  simp [bodyPostS, results, Tryd.results14, f0, f1, f2, hC3]
end Go.Proofs.YtdfnkmiabmjolaaDoor
namespace Go.Proofs.YtdfnkmiabmjolaaDoor
open Go.RowKit
set_option linter.unusedVariables false
set_option linter.unusedSimpArgs false

def ScanEnd (w : World) (s : ByteArray) (R : Rs (List Part)) (e : Ending) (w' : World) : Prop :=
  Chg (fun _ => False) w w' ∧ match R with
    | .ok l rest => ∃ v, e = .returned (.tuple #[v, .int .i64 (s.size - rest.length : Nat), .int .i64 0]) ∧ (rest.length ≤ s.size ∧ rest = s.data.toList.drop (s.size - rest.length)) ∧ Own w' (fun j => w.heap.size ≤ j) 32 5 v (Part.ds l)
    | .err left c => e = .returned (.tuple #[.slice none 0 0, .int .i64 (s.size - left : Nat), .int .i64 c]) ∧ left ≤ s.size

set_option maxRecDepth 100000 in
set_option maxHeartbeats 2000000 in
theorem Scan_bad (s : ByteArray) (x : Int) (w : World) (hx : x < 0 ∨ s.size < x ∨ 8192 < s.size) :
    Calls Tryd.prog 10 #[.string s, .int .i64 x] w fun e w' => e = .returned (.tuple #[.slice none 0 0, .int .i64 0, .int .i64 1]) ∧ Chg (fun _ => False) w w' := by
  have h1 : decide (x < 0) = true ∨ (decide (x < 0) = false ∧ (decide ((s.size : Int) < x) = true ∨ (decide ((s.size : Int) < x) = false ∧ decide ((8192 : Int) < (s.size : Int)) = true))) := by
    simp only [decide_eq_true_eq, decide_eq_false_iff_not]; omega
  clear hx
  have hn : ¬ w.heap.size < w.heap.size := by omega
  rcases h1 with h1 | ⟨h1, h2 | ⟨h2, h3⟩⟩
  all_goals
    go_enter_defers Tryd.func10, Tryd.ntmps10
    go_wp2
    simp [bodyPostD, Leaves, results, Tryd.results10, go_sem]
    exact (((Chg.refl (fun _ => False) w).alloc _).alloc _).alloc _

set_option maxRecDepth 100000 in
set_option maxHeartbeats 2000000 in
theorem Scan_calls (s : ByteArray) (a : Nat) (w : World) (ha : a ≤ s.size) (hs : s.size ≤ 8192) :
    Calls Tryd.prog 10 #[.string s, .int .i64 a] w (ScanEnd w s (scan (s.data.toList.drop a))) := by
  have hmf : ∀ (fn : Fn) (first cap : Array Value) (w : World), (Instr.makeFunc fn first cap).run Tryd.prog w = .ok (.func fn first cap) w := fun _ _ _ _ => rfl
  have e1 : decide ((a : Int) < 0) = false := by simp
  have e2 : decide ((s.size : Int) < (a : Int)) = false := by simp; omega
  have e3 : decide ((8192 : Int) < (s.size : Int)) = false := by simp; omega
  generalize hR : scan (s.data.toList.drop a) = R
  have HR := Lib.hid hR; clear hR
  go_enter_defers Tryd.func10, Tryd.ntmps10
  go_wp2_with fail
  have c0 := row_new w (.cells #[.slice none 0 0] 22)
  have hA : ScanAt ((((w.alloc (Obj.cells #[Value.slice none 0 0] 22)).alloc (Obj.cells #[Value.int IntKind.i64 0] 3)).alloc (Obj.cells #[Value.int IntKind.i64 0] 25)).alloc (Obj.cells #[Value.string s, Value.int IntKind.i64 a, Value.int IntKind.i64 0] 43)) (w.heap.size + 1 + 1 + 1) s a 0 := by
    have := row_new (((w.alloc (Obj.cells #[Value.slice none 0 0] 22)).alloc (Obj.cells #[Value.int IntKind.i64 0] 3)).alloc (Obj.cells #[Value.int IntKind.i64 0] 25)) (Obj.cells #[Value.string s, Value.int IntKind.i64 a, Value.int IntKind.i64 0] 43)
    unfold ScanAt
    simpa using this
  have c1 : ((w.alloc (Obj.cells #[Value.slice none 0 0] 22)).alloc (Obj.cells #[Value.int IntKind.i64 0] 3)).heap[w.heap.size + 1]? = some (Obj.cells #[Value.int IntKind.i64 0] 3) := by
    have := row_new (w.alloc (Obj.cells #[Value.slice none 0 0] 22)) (Obj.cells #[Value.int IntKind.i64 0] 3)
    simpa using this
  have c2 : (((w.alloc (Obj.cells #[Value.slice none 0 0] 22)).alloc (Obj.cells #[Value.int IntKind.i64 0] 3)).alloc (Obj.cells #[Value.int IntKind.i64 0] 25)).heap[w.heap.size + 2]? = some (Obj.cells #[Value.int IntKind.i64 0] 25) := by
    have := row_new ((w.alloc (Obj.cells #[Value.slice none 0 0] 22)).alloc (Obj.cells #[Value.int IntKind.i64 0] 3)) (Obj.cells #[Value.int IntKind.i64 0] 25)
    simpa using this
  have d0 := row_alloc (row_alloc (row_alloc c0 (Obj.cells #[Value.int IntKind.i64 0] 3)) (Obj.cells #[Value.int IntKind.i64 0] 25)) (Obj.cells #[Value.string s, Value.int IntKind.i64 a, Value.int IntKind.i64 0] 43)
  have d1 := row_alloc (row_alloc c1 (Obj.cells #[Value.int IntKind.i64 0] 25)) (Obj.cells #[Value.string s, Value.int IntKind.i64 a, Value.int IntKind.i64 0] 43)
  have d2 := row_alloc c2 (Obj.cells #[Value.string s, Value.int IntKind.i64 a, Value.int IntKind.i64 0] 43)
  have hC := ((((Chg.refl (fun _ => False) w).alloc (Obj.cells #[Value.slice none 0 0] 22)).alloc (Obj.cells #[Value.int IntKind.i64 0] 3)).alloc (Obj.cells #[Value.int IntKind.i64 0] 25)).alloc (Obj.cells #[Value.string s, Value.int IntKind.i64 a, Value.int IntKind.i64 0] 43)
  clear c0 c1 c2
  refine (word_calls _ (w.heap.size + 1 + 1 + 1) s a hA ha hs).mono ?_
  intro e w1 hpost
  rw [HR.out] at hpost
  cases R with
  | err left c =>
    obtain ⟨k, hk, hl, rfl, hC1⟩ := hpost
    have r0 := row_chg d0 hC1 (by simp; omega)
    have r1 := row_chg d1 hC1 (by simp)
    have r2 := row_chg d2 hC1 (by simp)
    have hC2 := hC.trans hC1 (fun j h hl => by simp at h; omega)
    clear d0 d1 d2 hC hC1 hA
    refine leaves_cons (f := 14) (args := #[.pointer (some ⟨w.heap.size, 0, none⟩), .pointer (some ⟨w.heap.size + 1, 0, none⟩), .pointer (some ⟨w.heap.size + 2, 0, none⟩)]) (by simp) (by simp [go_sem]) ?_
    refine (catch_fault w.heap.size _ _ _ k c w1 _ _ _ r0 r1 r2).mono ?_
    rintro e u' w2 ⟨rfl, rfl, f0, f1, f2, hC3⟩
    simp [Leaves, settle, results, Tryd.results10, go_sem, f0, f1, f2]
    refine ⟨hC2.trans hC3 (fun j h hl => by have := h.1; omega), ?_, by omega⟩
    rw [show s.size - left = k by omega]
  | ok l rest =>
    obtain ⟨v, k, rfl, hk, rfl, hO, hA1, hC1⟩ := hpost
    have r0 := row_chg d0 hC1 (by simp; omega)
    have r1 := row_chg d1 hC1 (by simp)
    have r2 := row_chg d2 hC1 (by simp)
    have hC2 := hC.trans hC1 (fun j h hl => by simp at h; omega)
    clear d0 d1 d2 hC hC1 hA
    obtain ⟨k0, k1, k2, kf1, _, kgl⟩ := hA1.cells
    have hgr := row_lt hA1
    have p0 := row_cells r0
    have p1 := row_cells r1
    have p2 := row_cells r2
    have q0 := row_free r0
    have q1 := row_free r1
    have q2 := row_free r2
    obtain ⟨A, c, rfl, _, _⟩ := Own.form hO
    have m1 : ¬ w.heap.size + 1 + 1 + 1 = w.heap.size := by omega
    have m2 : ¬ w.heap.size = w.heap.size + 1 + 1 + 1 := by omega
    have R0 := Lib.hid r0; clear r0
    have R1 := Lib.hid r1; clear r1
    have R2 := Lib.hid r2; clear r2
    have m3 : ¬ w.heap.size + 1 + 1 + 1 = w.heap.size + 1 := by omega
    have m4 : ¬ w.heap.size + 1 + 1 + 1 = w.heap.size + 2 := by omega
    have m5 : ¬ w.heap.size + 1 = w.heap.size + 1 + 1 + 1 := by omega
    have m6 : ¬ w.heap.size + 2 = w.heap.size + 1 + 1 + 1 := by omega
    have m7 : ¬ w.heap.size = w.heap.size + 1 + 1 := by omega
    have m8 : ¬ w.heap.size + 1 + 1 = w.heap.size := by omega
    have m9 : ¬ w.heap.size + 1 + 1 + 1 = w.heap.size + 1 + 1 := by omega
    have m10 : ¬ w.heap.size + 1 + 1 = w.heap.size + 1 + 1 + 1 := by omega
    go_wp2
    have s0 := row_set R0.out 0 (.slice A (Part.ds l).length c)
    have s1 := row_far R1.out (p := ⟨w.heap.size, 0, none⟩) (by simp) (.slice A (Part.ds l).length c)
    have s2 := row_far R2.out (p := ⟨w.heap.size, 0, none⟩) (by simp) (.slice A (Part.ds l).length c)
    have s3 := row_far hA1 (p := ⟨w.heap.size, 0, none⟩) m1 (.slice A (Part.ds l).length c)
    have hC4 := hC2.setCell (p := ⟨w.heap.size, 0, none⟩) (fun h => absurd h (by simp)) (.slice A (Part.ds l).length c)
    have hO4 := (Own.mono hO (S' := fun j => w.heap.size + 3 ≤ j) (fun j h _ => h.elim (fun h => h.elim) (fun h => by simp at h; omega))).stay ((Chg.refl (fun j => j ≤ w.heap.size + 2) _).setCell (p := ⟨w.heap.size, 0, none⟩) (fun _ => by simp) (.slice A (Part.ds l).length c)) (fun j h e => by omega)
    clear p0 p1 p2 q0 q1 q2 k0 k1 k2 kf1 hO hA1 R0 R1 R2 hC2 kgl hgr
    revert s0 s1 s2 s3 hC4 hO4
    generalize w1.setCell ⟨w.heap.size, 0, none⟩ (.slice A (Part.ds l).length c) = wa
    intro s0 s1 s2 s3 hC4 hO4
    obtain ⟨k0, k1, k2, kf1, _, kgl⟩ := ScanAt.cells s3
    have p0 := row_cells s0
    have p1 := row_cells s1
    have p2 := row_cells s2
    have q0 := row_free s0
    have q1 := row_free s1
    have q2 := row_free s2
    have z0 : (wa.setCell ⟨w.heap.size, 0, none⟩ (.slice A (Part.ds l).length c)).cell? ⟨w.heap.size, 0, none⟩ = some (.slice A (Part.ds l).length c) := row_cells (row_set s0 0 (.slice A (Part.ds l).length c)) 0
    have z1 : (wa.setCell ⟨w.heap.size, 0, none⟩ (.slice A (Part.ds l).length c)).cell? ⟨w.heap.size + 1 + 1 + 1, 1, none⟩ = some (.int .i64 k) := row_cells (row_far s3 (p := ⟨w.heap.size, 0, none⟩) m1 _) 1
    go_region_held3 (fun w' => w'.cell? ⟨w.heap.size, 0, none⟩ = some (.slice A (Part.ds l).length c) ∧ w'.cell? ⟨w.heap.size + 1 + 1 + 1, 1, none⟩ = some (.int .i64 k)) (first | go_keep | (go_split_ands; exact ⟨z0, z1⟩)) (fail)
    have f0 : (((wa.setCell ⟨w.heap.size, 0, none⟩ (.slice A (Part.ds l).length c)).setCell ⟨w.heap.size + 1, 0, none⟩ (.int .i64 k)).setCell ⟨w.heap.size + 1 + 1, 0, none⟩ (.int .i64 0)).drew.cell? ⟨w.heap.size, 0, none⟩ = some (.slice A (Part.ds l).length c) := row_cells (row_far (row_far (row_set s0 0 _) (p := ⟨w.heap.size + 1, 0, none⟩) (by simp) _) (p := ⟨w.heap.size + 1 + 1, 0, none⟩) m7 _) 0
    have f1 : (((wa.setCell ⟨w.heap.size, 0, none⟩ (.slice A (Part.ds l).length c)).setCell ⟨w.heap.size + 1, 0, none⟩ (.int .i64 k)).setCell ⟨w.heap.size + 1 + 1, 0, none⟩ (.int .i64 0)).drew.cell? ⟨w.heap.size + 1, 0, none⟩ = some (.int .i64 k) := row_cells (row_far (row_set (row_far s1 (p := ⟨w.heap.size, 0, none⟩) (by simp) _) 0 _) (p := ⟨w.heap.size + 1 + 1, 0, none⟩) (by simp) _) 0
    have f2 : (((wa.setCell ⟨w.heap.size, 0, none⟩ (.slice A (Part.ds l).length c)).setCell ⟨w.heap.size + 1, 0, none⟩ (.int .i64 k)).setCell ⟨w.heap.size + 1 + 1, 0, none⟩ (.int .i64 0)).drew.cell? ⟨w.heap.size + 2, 0, none⟩ = some (.int .i64 0) := row_cells (row_set (row_far (row_far s2 (p := ⟨w.heap.size, 0, none⟩) (by simp) _) (p := ⟨w.heap.size + 1, 0, none⟩) (by simp) _) 0 _) 0
    have hC5 : Chg (fun _ => False) w (((wa.setCell ⟨w.heap.size, 0, none⟩ (.slice A (Part.ds l).length c)).setCell ⟨w.heap.size + 1, 0, none⟩ (.int .i64 k)).setCell ⟨w.heap.size + 1 + 1, 0, none⟩ (.int .i64 0)).drew := (((hC4.setCell (p := ⟨w.heap.size, 0, none⟩) (fun h => absurd h (by simp)) _).setCell (p := ⟨w.heap.size + 1, 0, none⟩) (fun h => absurd h (by simp)) _).setCell (p := ⟨w.heap.size + 1 + 1, 0, none⟩) (fun h => absurd h (by simp; omega)) _).drew
    have hO5 : Own (((wa.setCell ⟨w.heap.size, 0, none⟩ (.slice A (Part.ds l).length c)).setCell ⟨w.heap.size + 1, 0, none⟩ (.int .i64 k)).setCell ⟨w.heap.size + 1 + 1, 0, none⟩ (.int .i64 0)).drew (fun j => w.heap.size ≤ j) 32 5 (.slice A (Part.ds l).length c) (Part.ds l) := (hO4.stay ((((Chg.refl (fun j => j ≤ w.heap.size + 2) _).setCell (p := ⟨w.heap.size, 0, none⟩) (fun _ => by simp) _).setCell (p := ⟨w.heap.size + 1, 0, none⟩) (fun _ => by simp) _).setCell (p := ⟨w.heap.size + 1 + 1, 0, none⟩) (fun _ => by simp) _).drew (fun j h e => by omega)).mono (fun j h _ => by omega)
    clear p0 p1 p2 q0 q1 q2 k0 k1 k2 kf1 z0 z1 s0 s1 s2 s3 hC4 hO4
    rename_i hHeld
    clear hHeld
    revert f0 f1 f2 hC5 hO5
    generalize (((wa.setCell ⟨w.heap.size, 0, none⟩ (.slice A (Part.ds l).length c)).setCell ⟨w.heap.size + 1, 0, none⟩ (.int .i64 k)).setCell ⟨w.heap.size + 1 + 1, 0, none⟩ (.int .i64 0)).drew = wb
    intro f0 f1 f2 hC5 hO5
    go_wp2
    refine leaves_cons (f := 14) (args := #[.pointer (some ⟨w.heap.size, 0, none⟩), .pointer (some ⟨w.heap.size + 1, 0, none⟩), .pointer (some ⟨w.heap.size + 2, 0, none⟩)]) (by simp) (by simp [go_sem]) ?_
    refine (catch_idle _ _ _ _).mono ?_
    rintro e u' w2 ⟨rfl, rfl, rfl⟩
    simp [Leaves, settle, results, Tryd.results10, go_sem, f0, f1, f2]
    refine ⟨hC5, _, ?_, ?_, hO5⟩
    · rw [drop_len, show s.size - (s.size - k) = k by omega]
    · rw [drop_len]
      exact ⟨by omega, by rw [show s.size - (s.size - k) = k by omega]⟩
end Go.Proofs.YtdfnkmiabmjolaaDoor
namespace Go.Proofs.YtdfnkmiabmjolaaDoor
open Go.RowKit
set_option linter.unusedVariables false
set_option linter.unusedSimpArgs false

theorem beqs_length : ∀ (a b : List Part), a.length ≠ b.length → beqs a b = false
  | [], [], h => absurd rfl h
  | [], _ :: _, _ => by simp [beqs]
  | _ :: _, [], _ => by simp [beqs]
  | p :: a, q :: b, h => by rw [beqs, beqs_length a b (by simpa using h), Bool.and_false]
theorem beqs_drop (a b : List Part) (k : Nat) (p q : Part) (hp : a[k]? = some p) (hq : b[k]? = some q) : beqs (a.drop k) (b.drop k) = (Part.beq p q && beqs (a.drop (k + 1)) (b.drop (k + 1))) := by
  obtain ⟨h1, e1⟩ := List.getElem?_eq_some_iff.1 hp
  obtain ⟨h2, e2⟩ := List.getElem?_eq_some_iff.1 hq
  rw [List.drop_eq_getElem_cons h1, List.drop_eq_getElem_cons h2, e1, e2, beqs]

def SameSaid (n : Nat) : Prop := ∀ (w : World) (S1 S2 : Nat → Prop) (v1 v2 : Value) (l1 l2 : List Part), Part.wts l1 ≤ n →
  Rep w S1 (.sl 32 5 (Part.ds l1)) [v1] → Rep w S2 (.sl 32 5 (Part.ds l2)) [v2] →
  Calls Tryd.prog 9 #[v1, v2] w fun e w' => e = .returned (.bool (beqs l1 l2)) ∧ ∃ m, w' = w.drewN m

set_option maxRecDepth 100000 in
set_option maxHeartbeats 4000000 in
theorem same_step (n : Nat) (IH : ∀ m, m < n → SameSaid m) : SameSaid n := by
  intro w S1 S2 v1 v2 l1 l2 hn h1 h2
  obtain ⟨B1, d1, i1, e1, hd1, hx1, hR1, hE1⟩ := h1
  obtain ⟨B2, d2, i2, e2, hd2, hx2, hR2, hE2⟩ := h2
  have hv1 : v1 = .slice B1 l1.length d1 := by rw [Part.ds_length] at e1; simpa using e1
  have hv2 : v2 = .slice B2 l2.length d2 := by rw [Part.ds_length] at e2; simpa using e2
  subst hv1
  subst hv2
  rw [Part.ds_length] at hd1 hd2
  have h1 : Rep w S1 (.sl 32 5 (Part.ds l1)) [.slice B1 l1.length d1] := ⟨B1, d1, i1, by rw [Part.ds_length], by rw [Part.ds_length]; exact hd1, hx1, hR1, hE1⟩
  have h2 : Rep w S2 (.sl 32 5 (Part.ds l2)) [.slice B2 l2.length d2] := ⟨B2, d2, i2, by rw [Part.ds_length], by rw [Part.ds_length]; exact hd2, hx2, hR2, hE2⟩
  clear e1 e2 hR1 hR2 hE1 hE2
  simp only [maxLen] at hx1 hx2
  by_cases hl : l1.length = l2.length
  · have t1 : ((l1.length : Int) != (l2.length : Int)) = false := by simp; omega
    generalize hR : beqs l1 l2 = R
    have HR := Lib.hid hR; clear hR
    go_enter Tryd.func9, Tryd.ntmps9
    go_wp2
    go_loopg [5] l1.length (fun rk i wr => ∃ k : Nat, k + rk = l1.length ∧ i = .int .i64 k ∧ (∃ m, wr = w.drewN m) ∧ Hid (beqs (l1.drop k) (l2.drop k) = R))
    case atStart => exact ⟨0, by omega, rfl, ⟨0, rfl⟩, Lib.hid (by simpa using HR.out)⟩
    case round =>
      obtain ⟨k, hk, rfl, ⟨m, hm⟩, HK⟩ := hrel
      have h1' : Rep wr S1 (.sl 32 5 (Part.ds l1)) [.slice B1 l1.length d1] := by rw [hm]; exact h1.stay ((Chg.refl (fun _ => False) _).drewN _) (fun _ _ e => e)
      have h2' : Rep wr S2 (.sl 32 5 (Part.ds l2)) [.slice B2 l2.length d2] := by rw [hm]; exact h2.stay ((Chg.refl (fun _ => False) _).drewN _) (fun _ _ e => e)
      clear h1 h2
      have HM := Lib.hid hm; clear hm
      by_cases hlt : k < l1.length
      · obtain ⟨p1, hp1⟩ : ∃ p, l1[k]? = some p := ⟨l1[k], List.getElem?_eq_getElem hlt⟩
        obtain ⟨p2, hp2⟩ : ∃ p, l2[k]? = some p := ⟨l2[k], List.getElem?_eq_getElem (by omega)⟩
        have HB := Lib.hid (beqs_drop l1 l2 k p1 p2 hp1 hp2)
        have hwp := wt_get hp1
        have hwd := wts_drop l1 k
        obtain ⟨b1, o1, c1', cs1, hv1, _, _, hb1, hr1, _, hcs1⟩ := sl_get h1' (by omega) k p1.d (by rw [Part.ds_map, List.getElem?_map, hp1]; rfl)
        obtain ⟨b2, o2, c2', cs2, hv2, _, _, hb2, hr2, _, hcs2⟩ := sl_get h2' (by omega) k p2.d (by rw [Part.ds_map, List.getElem?_map, hp2]; rfl)
        simp only [Part.ds_length, Value.slice.injEq] at hv1 hv2
        obtain ⟨rfl, _, rfl⟩ := hv1
        obtain ⟨rfl, _, rfl⟩ := hv2
        clear hp1 hp2 h1' h2'
        obtain ⟨kd1, qd1, td1, od1, wd1⟩ := p1
        obtain ⟨A1, c1, rfl, hwv1, hc1, hm1⟩ := part_rep2 hr1
        have g10 := hcs1 0 _ rfl
        have g11 := hcs1 1 _ rfl
        have g12 := hcs1 2 _ rfl
        have g13 := hcs1 3 _ rfl
        have g14 := hcs1 4 _ rfl
        simp only [Nat.add_zero, ← Nat.add_assoc] at g10 g11 g12 g13 g14
        clear hcs1
        obtain ⟨kd2, qd2, td2, od2, wd2⟩ := p2
        obtain ⟨A2, c2, rfl, hwv2, hc2, hm2⟩ := part_rep2 hr2
        have g20 := hcs2 0 _ rfl
        have g21 := hcs2 1 _ rfl
        have g22 := hcs2 2 _ rfl
        have g23 := hcs2 3 _ rfl
        have g24 := hcs2 4 _ rfl
        simp only [Nat.add_zero, ← Nat.add_assoc] at g20 g21 g22 g23 g24
        clear hcs2
        have hlt2 : k < l2.length := by omega
        simp only [Part.wt] at hwp
        cases hk0 : (kd1 != kd2)
        case true =>
          have hR0 : Hid (R = false) := Lib.hid (by
            rw [← HK.out, HB.out, Part.beq, show (kd1 == kd2) = false by simpa using hk0]; rfl)
          go_wp2
          go_quiet (fail)
          go_wp2
          go_ret
          exact ⟨by rw [hR0.out]; try rfl, m + nq, by rw [HM.out, World.drewN_drewN]⟩
        case false =>
          cases hk1 : (qd1 == qd2)
          case false =>
            have hR0 : Hid (R = false) := Lib.hid (by
              rw [← HK.out, HB.out, Part.beq, hk1]; simp)
            go_wp2
            go_quiet (fail)
            go_wp2
            go_ret
            exact ⟨by rw [hR0.out]; try rfl, m + nq, by rw [HM.out, World.drewN_drewN]⟩
          case true =>
            have hst : ((bstr td1).toList == (bstr td2).toList) = (td1 == td2) := by rw [ByteArray.toList_eq, ByteArray.toList_eq, bstr_toList, bstr_toList]
            have hso : ((bstr od1).toList == (bstr od2).toList) = (od1 == od2) := by rw [ByteArray.toList_eq, ByteArray.toList_eq, bstr_toList, bstr_toList]
            clear hr1 hr2
            revert hst hso g12 g13 g22 g23
            generalize bstr td1 = xt1
            generalize bstr td2 = xt2
            generalize bstr od1 = xo1
            generalize bstr od2 = xo2
            intro g12 g13 g22 g23 hst hso
            cases hk2 : (td1 == td2)
            case false =>
              rw [hk2] at hst
              have hR0 : Hid (R = false) := Lib.hid (by
                rw [← HK.out, HB.out, Part.beq, hk2]; simp)
              go_wp2
              go_quiet (fail)
              go_wp2
              go_ret
              exact ⟨by rw [hR0.out]; try rfl, m + nq, by rw [HM.out, World.drewN_drewN]⟩
            case true =>
              rw [hk2] at hst
              cases hk3 : (od1 == od2)
              case false =>
                rw [hk3] at hso
                have hR0 : Hid (R = false) := Lib.hid (by
                  rw [← HK.out, HB.out, Part.beq, hk3]; simp)
                go_wp2
                go_quiet (fail)
                go_wp2
                go_ret
                exact ⟨by rw [hR0.out]; try rfl, m + nq, by rw [HM.out, World.drewN_drewN]⟩
              case true =>
                rw [hk3] at hso
                cases hk4 : beqs wd1 wd2
                case false =>
                  have hR0 : Hid (R = false) := Lib.hid (by
                    rw [← HK.out, HB.out, Part.beq, hk4]; simp)
                  have hcall : ∀ m' : Nat, Calls Tryd.prog 9 #[.slice A1 wd1.length c1, .slice A2 wd2.length c2] (wr.drewN m') fun e w' => e = .returned (.bool false) ∧ ∃ n, w' = (wr.drewN m').drewN n :=
                    fun m' => (IH _ (by omega) (wr.drewN m') S1 S2 _ _ wd1 wd2 (Nat.le_refl _) (hwv1.stay ((Chg.refl (fun _ => False) _).drewN _) (fun _ _ e => e)) (hwv2.stay ((Chg.refl (fun _ => False) _).drewN _) (fun _ _ e => e))).mono (fun _ _ hh => ⟨by rw [← hk4]; exact hh.1, hh.2⟩)
                  go_wp2
                  go_quiet ((go_at_call 9; exact (hcall _).quiet_of))
                  go_wp2
                  go_ret
                  exact ⟨by rw [hR0.out]; try rfl, m + nq, by rw [HM.out, World.drewN_drewN]⟩
                case true =>
                  have hR0 : Hid (beqs (l1.drop (k + 1)) (l2.drop (k + 1)) = R) := Lib.hid (by
                    rw [← HK.out, HB.out, Part.beq, hk1, hk2, hk3, hk4, show (kd1 == kd2) = true by simpa using hk0]; rfl)
                  have hcall : ∀ m' : Nat, Calls Tryd.prog 9 #[.slice A1 wd1.length c1, .slice A2 wd2.length c2] (wr.drewN m') fun e w' => e = .returned (.bool true) ∧ ∃ n, w' = (wr.drewN m').drewN n :=
                    fun m' => (IH _ (by omega) (wr.drewN m') S1 S2 _ _ wd1 wd2 (Nat.le_refl _) (hwv1.stay ((Chg.refl (fun _ => False) _).drewN _) (fun _ _ e => e)) (hwv2.stay ((Chg.refl (fun _ => False) _).drewN _) (fun _ _ e => e))).mono (fun _ _ hh => ⟨by rw [← hk4]; exact hh.1, hh.2⟩)
                  go_wp2
                  go_quiet ((go_at_call 9; exact (hcall _).quiet_of))
                  go_wp2
                  go_roundg (gk - 1)
                  case measure => omega
                  case rel => exact ⟨k + 1, by omega, by go_num, ⟨m + nq, by rw [HM.out, World.drewN_drewN]⟩, hR0⟩
      · have hR0 : Hid (R = true) := Lib.hid (by
          rw [← HK.out, List.drop_eq_nil_of_le (by omega), List.drop_eq_nil_of_le (by omega)]; rfl)
        go_wp2
        go_ret
        exact ⟨by rw [hR0.out]; try rfl, m, HM.out⟩
  · have t1 : ((l1.length : Int) != (l2.length : Int)) = true := by simp; omega
    go_enter Tryd.func9, Tryd.ntmps9
    go_wp2
    go_ret
    exact ⟨by rw [beqs_length l1 l2 hl]; rfl, 0, rfl⟩

theorem same_calls (w : World) (S1 S2 : Nat → Prop) (v1 v2 : Value) (l1 l2 : List Part)
    (h1 : Rep w S1 (.sl 32 5 (Part.ds l1)) [v1]) (h2 : Rep w S2 (.sl 32 5 (Part.ds l2)) [v2]) :
    Calls Tryd.prog 9 #[v1, v2] w fun e w' => e = .returned (.bool (beqs l1 l2)) ∧ ∃ m, w' = w.drewN m := by
  have h : ∀ n, SameSaid n := fun n => Nat.strongRecOn n (fun n ih => same_step n ih)
  exact h _ w S1 S2 v1 v2 l1 l2 (Nat.le_refl _) h1 h2
end Go.Proofs.YtdfnkmiabmjolaaDoor
namespace Go.Proofs.YtdfnkmiabmjolaaDoor
set_option linter.unusedVariables false
set_option linter.unusedSimpArgs false

def sizeL (g : List Part → Nat) : Nat → List Part → Nat
  | n, [] => n
  | n, p :: ps => if 4000 < n then n else sizeL g (n + p.text.length + p.op.length + g p.word) ps
/-- With so many levels left. -/
def sizeW : Nat → List Part → Nat
  | 0, _ => 5000
  | f + 1, ps => if 4000 < ps.length then 5000 else sizeL (sizeW f) ps.length ps

theorem sizeL_mono (g : List Part → Nat) : ∀ ps n, n ≤ sizeL g n ps
  | [], n => Nat.le_refl _
  | p :: ps, n => by
    rw [sizeL]
    split
    · omega
    · have := sizeL_mono g ps (n + p.text.length + p.op.length + g p.word)
      omega
theorem sizeL_exact (g : List Part → Nat) (h : ∀ ps, g ps ≤ 4000 → g ps = Part.wts ps) : ∀ ps n, sizeL g n ps ≤ 4000 → sizeL g n ps + ps.length = n + Part.wts ps
  | [], n, _ => by simp [sizeL, Part.wts]
  | .mk k q t o w :: ps, n, hn => by
    rw [sizeL] at hn ⊢
    split at hn
    · omega
    · rename_i hc
      rw [if_neg hc]
      have h1 := sizeL_mono g ps (n + (Part.mk k q t o w).text.length + (Part.mk k q t o w).op.length + g (Part.mk k q t o w).word)
      have h2 := sizeL_exact g h ps _ hn
      have h3 := h w (by simp only [Part.word] at h1 hn; omega)
      rw [List.length_cons]
      simp only [Part.text, Part.op, Part.word, Part.wts, Part.wt] at h2 ⊢
      omega
theorem sizeW_exact : ∀ f ps, sizeW f ps ≤ 4000 → sizeW f ps = Part.wts ps
  | 0, ps, h => by simp [sizeW] at h
  | f + 1, ps, h => by
    rw [sizeW] at h ⊢
    split at h
    · omega
    · rename_i hc
      rw [if_neg hc]
      have := sizeL_exact (sizeW f) (sizeW_exact f) ps ps.length h
      omega

mutual
/-- Its texts can lie in memory. -/
def Part.lim : Part → Prop
  | .mk _ _ t o w => t.length ≤ 140737488355328 ∧ o.length ≤ 140737488355328 ∧ Part.lims w
def Part.lims : List Part → Prop
  | [] => True
  | p :: ps => p.lim ∧ Part.lims ps
end
theorem lims_mem : ∀ {ps : List Part} {k : Nat} {p : Part}, Part.lims ps → ps[k]? = some p → p.lim
  | [], _, _, _, h => by simp at h
  | q :: ps, 0, p, hl, h => by simp at h; subst h; exact hl.1
  | q :: ps, k + 1, p, hl, h => lims_mem hl.2 (by simpa using h)

theorem sizeL_le (g : List Part → Nat) (G B : Nat) (hg : ∀ w, Part.lims w → g w ≤ G) (hB : 281474976714656 + G ≤ B) : ∀ ps n, Part.lims ps → n ≤ B → sizeL g n ps ≤ B
  | [], n, _, h => h
  | .mk k q t o w :: ps, n, hl, h => by
    rw [sizeL]
    split
    · exact h
    · obtain ⟨⟨h1, h2, h3⟩, h4⟩ := hl
      refine sizeL_le g G B hg hB ps _ h4 ?_
      have := hg w h3
      simp only [Part.text, Part.op, Part.word]
      omega
theorem sizeW_le : ∀ f ps, Part.lims ps → sizeW f ps ≤ 5000 + f * 281474976714656
  | 0, _, _ => by simp [sizeW]
  | f + 1, ps, h => by
    rw [sizeW]
    split
    · omega
    · exact sizeL_le (sizeW f) _ _ (fun w hw => sizeW_le f w hw) (by omega) ps _ h (by omega)
theorem sizeL_step (g : List Part → Nat) (ps : List Part) (k n : Nat) (p : Part) (hp : ps[k]? = some p) (hn : ¬ 4000 < n) :
    sizeL g n (ps.drop k) = sizeL g (n + p.text.length + p.op.length + g p.word) (ps.drop (k + 1)) := by
  obtain ⟨h1, e1⟩ := List.getElem?_eq_some_iff.1 hp
  rw [List.drop_eq_getElem_cons h1, sizeL, if_neg hn, e1]
theorem sizeL_stop (g : List Part → Nat) (ps : List Part) (n : Nat) (hn : 4000 < n) : sizeL g n ps = n := by
  cases ps with
  | nil => rfl
  | cons p ps => rw [sizeL, if_pos hn]
end Go.Proofs.YtdfnkmiabmjolaaDoor
namespace Go.Proofs.YtdfnkmiabmjolaaDoor
open Go.RowKit
set_option linter.unusedVariables false
set_option linter.unusedSimpArgs false

def SizeSaid (f : Nat) : Prop := ∀ (w : World) (S : Nat → Prop) (v : Value) (ps : List Part) (deep : Nat), deep + f = 41 → Part.lims ps → Rep w S (.sl 32 5 (Part.ds ps)) [v] →
  Calls Tryd.prog 4 #[v, .int .i64 deep] w fun e w' => e = .returned (.int .i64 (sizeW f ps)) ∧ ∃ m, w' = w.drewN m

set_option maxRecDepth 100000 in
set_option maxHeartbeats 4000000 in
theorem size_step (f : Nat) (IH : SizeSaid f) : SizeSaid (f + 1) := by
  intro w S v ps deep hd hl h
  obtain ⟨A, c, rfl⟩ := sl_form2 h
  rw [Part.ds_length] at h ⊢
  have hmax : ps.length ≤ c ∧ c ≤ maxLen := by
    obtain ⟨_, _, _, h1, h2, h3, _⟩ := h
    simp only [List.cons.injEq, Value.slice.injEq, and_true] at h1
    rw [Part.ds_length] at h2
    exact ⟨by omega, by omega⟩
  unfold maxLen at hmax
  have q1 : decide ((40 : Int) < (deep : Int)) = false := by simp; omega
  generalize hR : sizeW (f + 1) ps = R
  rw [sizeW] at hR
  by_cases hg : 4000 < ps.length
  · have q2 : decide ((4000 : Int) < (ps.length : Int)) = true := by simp; omega
    rw [if_pos hg] at hR
    subst hR
    go_enter Tryd.func4, Tryd.ntmps4
    go_wp2
    go_ret
    exact ⟨rfl, 0, rfl⟩
  · have q2 : decide ((4000 : Int) < (ps.length : Int)) = false := by simp; omega
    rw [if_neg hg] at hR
    have HR := Lib.hid hR; clear hR
    have hB : ps.length ≤ 5000 + 41 * 281474976714656 := by omega
    have hf : f ≤ 40 := by omega
    have r1 : IntKind.i64.wrap ((deep : Int) + 1) = ((deep + 1 : Nat) : Int) := by rw [IntWalk.i64_in _ (by omega)]; omega
    go_enter Tryd.func4, Tryd.ntmps4
    go_wp2
    go_loopg [5, 6] ps.length (fun rk nv i wr => ∃ k n : Nat, k + rk = ps.length ∧ i = .int .i64 k ∧ nv = .int .i64 n ∧ n ≤ 5000 + 41 * 281474976714656 ∧ (∃ m, wr = w.drewN m) ∧ Hid (sizeL (sizeW f) n (ps.drop k) = R))
    case atStart => exact ⟨0, ps.length, by omega, rfl, rfl, hB, ⟨0, rfl⟩, Lib.hid (by simpa using HR.out)⟩
    case round =>
      clear hB HR
      obtain ⟨k, n, hk, rfl, rfl, hn, ⟨m, hm⟩, HK⟩ := hrel
      have h' : Rep wr S (.sl 32 5 (Part.ds ps)) [.slice A ps.length c] := by rw [hm]; exact h.stay ((Chg.refl (fun _ => False) _).drewN _) (fun _ _ e => e)
      clear h
      have HM := Lib.hid hm; clear hm
      by_cases hlt : k < ps.length
      · by_cases hn4 : 4000 < n
        · have q3 : decide ((n : Int) ≤ 4000) = false := by simp; omega
          have hR0 : Hid (n = R) := Lib.hid (by rw [← HK.out, sizeL_stop _ _ _ hn4])
          go_wp2
          go_ret
          exact ⟨by rw [hR0.out]; try rfl, m, HM.out⟩
        · have q3 : decide ((n : Int) ≤ 4000) = true := by simp; omega
          obtain ⟨p, hp⟩ : ∃ p, ps[k]? = some p := ⟨ps[k], List.getElem?_eq_getElem hlt⟩
          have HS := Lib.hid (sizeL_step (sizeW f) ps k n p hp hn4)
          have hlp := lims_mem hl hp
          obtain ⟨b1, o1, c1', cs1, hv1, _, _, hb1, hr1, _, hcs1⟩ := sl_get h' (by omega) k p.d (by rw [Part.ds_map, List.getElem?_map, hp]; rfl)
          simp only [Part.ds_length, Value.slice.injEq] at hv1
          obtain ⟨rfl, _, rfl⟩ := hv1
          obtain ⟨kd, qd, td, od, wd⟩ := p
          obtain ⟨lt, lo, lw⟩ := hlp
          obtain ⟨Aw, cw, rfl, hw1, _⟩ := part_rep2 hr1
          have g12 := hcs1 2 _ rfl
          have g13 := hcs1 3 _ rfl
          have g14 := hcs1 4 _ rfl
          simp only [Nat.add_zero, ← Nat.add_assoc] at g12 g13 g14
          have hcall : ∀ m' : Nat, Calls Tryd.prog 4 #[.slice Aw wd.length cw, .int .i64 ((deep + 1 : Nat) : Int)] (wr.drewN m') fun e w' => e = .returned (.int .i64 (sizeW f wd)) ∧ ∃ n, w' = (wr.drewN m').drewN n :=
            fun m' => IH (wr.drewN m') S _ wd (deep + 1) (by omega) lw (hw1.stay ((Chg.refl (fun _ => False) _).drewN _) (fun _ _ e => e))
          have hG := sizeW_le f wd lw
          have hG2 : sizeW f wd ≤ 5000 + 40 * 281474976714656 := Nat.le_trans hG (by have : f * 281474976714656 ≤ 40 * 281474976714656 := Nat.mul_le_mul_right _ hf; omega)
          have st : (bstr td).size = td.length := bstr_size td
          have so : (bstr od).size = od.length := bstr_size od
          simp only [Part.text, Part.op, Part.word] at HS
          have HRN : Hid (sizeL (sizeW f) (n + td.length + od.length + sizeW f wd) (ps.drop (k + 1)) = R) := Lib.hid (by rw [← HS.out, HK.out])
          clear hcs1 hr1 hp h' hw1 hG HS HK hl lw hb1
          generalize sizeW f wd = G at *
          generalize bstr td = tb at *
          generalize bstr od = ob at *
          have r2 : IntKind.i64.wrap ((n : Int) + (tb.size : Int)) = (n : Int) + (tb.size : Int) := IntWalk.i64_in _ (by omega)
          have r3 : IntKind.i64.wrap ((n : Int) + (tb.size : Int) + (ob.size : Int)) = (n : Int) + (tb.size : Int) + (ob.size : Int) := IntWalk.i64_in _ (by omega)
          have r4 : IntKind.i64.wrap ((n : Int) + (tb.size : Int) + (ob.size : Int) + (G : Int)) = (n : Int) + (tb.size : Int) + (ob.size : Int) + (G : Int) := IntWalk.i64_in _ (by omega)
          have r5 : IntKind.i64.wrap ((k : Int) + 1) = (k : Int) + 1 := IntWalk.i64_in _ (by omega)
          go_wp2
          go_quiet ((go_at_call 4; exact (hcall _).quiet_of))
          go_wp2
          go_roundg (gk - 1)
          case measure => omega
          case rel => exact ⟨k + 1, n + td.length + od.length + G, by omega, rfl, by rw [← st, ← so]; simp, by omega, ⟨m + nq, by rw [HM.out, World.drewN_drewN]⟩, HRN⟩
      · have hR0 : Hid (n = R) := Lib.hid (by rw [← HK.out, List.drop_eq_nil_of_le (by omega)]; rfl)
        go_wp2
        go_ret
        exact ⟨by rw [hR0.out]; try rfl, m, HM.out⟩
set_option maxRecDepth 100000 in
theorem size_base : SizeSaid 0 := by
  intro w S v ps deep hd hl h
  obtain ⟨A, c, rfl⟩ := sl_form2 h
  rw [Part.ds_length]
  obtain rfl : deep = 41 := by omega
  rw [sizeW]
  go_enter Tryd.func4, Tryd.ntmps4
  go_wp2
  go_ret
  exact ⟨rfl, 0, rfl⟩
theorem size_all : ∀ f, SizeSaid f
  | 0 => size_base
  | f + 1 => size_step f (size_all f)
theorem size_calls (w : World) (S : Nat → Prop) (v : Value) (ps : List Part) (hl : Part.lims ps) (h : Rep w S (.sl 32 5 (Part.ds ps)) [v]) :
    Calls Tryd.prog 4 #[v, .int .i64 0] w fun e w' => e = .returned (.int .i64 (sizeW 41 ps)) ∧ ∃ m, w' = w.drewN m :=
  size_all 41 w S v ps 0 (by omega) hl h
end Go.Proofs.YtdfnkmiabmjolaaDoor
namespace Go.Proofs.YtdfnkmiabmjolaaDoor
open Go.RowKit
set_option linter.unusedVariables false
set_option linter.unusedSimpArgs false

theorem text_all : ∀ n, OneSaid n ∧ TextSaid n
  | 0 => ⟨fun _ _ _ _ h => absurd h (Nat.not_lt_zero _), fun _ _ _ _ h => absurd h (Nat.not_lt_zero _)⟩
  | n + 1 => ⟨one_step n (text_all n).2, text_step (n + 1) (one_step n (text_all n).2)⟩
theorem text_calls (w : World) (S : Nat → Prop) (v : Value) (ps : List Part) (hb : Part.wts ps ≤ 20000) (hm : HM w) (h : Rep w S (.sl 32 5 (Part.ds ps)) [v]) :
    Calls Tryd.prog 11 #[v] w fun e w' => e = .returned (.string (bstr (textP ps))) ∧ Chg (fun _ => False) w w' :=
  (text_all (Part.wts ps + 1)).2 w S v ps (Nat.lt_succ_self _) hb hm h

def WSame (n : Nat) : Prop := ∀ (w : World) (S1 S2 : Nat → Prop) (v1 v2 : Value) (l1 l2 : List Part), Part.wts l1 < n → Rep w S1 (.sl 32 5 (Part.ds l1)) [v1] → Rep w S2 (.sl 32 5 (Part.ds l2)) [v2] →
  Calls Tryd.prog 8 #[v1, v2] w fun e w' => e = .returned (.bool (beqs l1 l2)) ∧ Chg (fun _ => False) w w'
set_option maxRecDepth 100000 in
set_option maxHeartbeats 4000000 in
theorem wsame_step (n : Nat) (IH : WSame n) : WSame (n + 1) := by
  intro w S1 S2 v1 v2 l1 l2 hn h1 h2
  obtain ⟨B1, d1, rfl⟩ := sl_form2 h1
  obtain ⟨B2, d2, rfl⟩ := sl_form2 h2
  have hx1 : l1.length ≤ d1 ∧ d1 ≤ maxLen := by
    obtain ⟨_, _, _, e1, e2, e3, _⟩ := h1
    simp only [List.cons.injEq, Value.slice.injEq, and_true] at e1
    rw [Part.ds_length] at e2
    exact ⟨by omega, by omega⟩
  unfold maxLen at hx1
  rw [Part.ds_length] at h1 h2 ⊢
  rw [Part.ds_length]
  by_cases hl : l1.length = l2.length
  · have t1 : ((l1.length : Int) != (l2.length : Int)) = false := by simp; omega
    generalize hR : beqs l1 l2 = R
    have HR := Lib.hid hR; clear hR
    have HL := Lib.hid hl; clear hl
    go_enter Tryd.func8, Tryd.ntmps8
    go_wp2
    go_loopg [15] l1.length (fun rk i wr => ∃ k : Nat, k + rk = l1.length ∧ i = .int .i64 k ∧ Chg (fun _ => False) w wr ∧ Hid (beqs (l1.drop k) (l2.drop k) = R))
    case atStart => exact ⟨0, by omega, rfl, Chg.refl _ _, Lib.hid (by simpa using HR.out)⟩
    case round =>
      obtain ⟨k, hk, rfl, hC, HK⟩ := hrel
      generalize wr = W at *
      have h1' := h1.stay hC (fun _ _ e => e)
      have h2' := h2.stay hC (fun _ _ e => e)
      clear h1 h2
      by_cases hlt : k < l1.length
      · obtain ⟨p1, hp1⟩ : ∃ p, l1[k]? = some p := ⟨l1[k], List.getElem?_eq_getElem hlt⟩
        obtain ⟨p2, hp2⟩ : ∃ p, l2[k]? = some p := ⟨l2[k]'(by rw [← HL.out]; exact hlt), List.getElem?_eq_getElem (by rw [← HL.out]; exact hlt)⟩
        have HB := Lib.hid (beqs_drop l1 l2 k p1 p2 hp1 hp2)
        have hwp := wt_mem hp1
        obtain ⟨b1, o1, c1', cs1, hv1, _, _, hb1, hr1, _, hcs1⟩ := sl_get h1' (by omega) k p1.d (by rw [Part.ds_map, List.getElem?_map, hp1]; rfl)
        obtain ⟨b2, o2, c2', cs2, hv2, _, _, hb2, hr2, _, hcs2⟩ := sl_get h2' (by omega) k p2.d (by rw [Part.ds_map, List.getElem?_map, hp2]; rfl)
        simp only [Part.ds_length, Value.slice.injEq] at hv1 hv2
        obtain ⟨rfl, _, rfl⟩ := hv1
        obtain ⟨rfl, _, rfl⟩ := hv2
        clear hp1 hp2 h1' h2'
        obtain ⟨kd1, qd1, td1, od1, wd1⟩ := p1
        obtain ⟨Aw1, cw1, rfl, hw1, _⟩ := part_rep2 hr1
        have g10 := hcs1 0 _ rfl
        have g11 := hcs1 1 _ rfl
        have g12 := hcs1 2 _ rfl
        have g13 := hcs1 3 _ rfl
        have g14 := hcs1 4 _ rfl
        simp only [Nat.add_zero, ← Nat.add_assoc] at g10 g11 g12 g13 g14
        clear hcs1
        obtain ⟨kd2, qd2, td2, od2, wd2⟩ := p2
        obtain ⟨Aw2, cw2, rfl, hw2, _⟩ := part_rep2 hr2
        have g20 := hcs2 0 _ rfl
        have g21 := hcs2 1 _ rfl
        have g22 := hcs2 2 _ rfl
        have g23 := hcs2 3 _ rfl
        have g24 := hcs2 4 _ rfl
        simp only [Nat.add_zero, ← Nat.add_assoc] at g20 g21 g22 g23 g24
        clear hcs2
        have a20 := fun O => ((Chg.refl (fun _ => False) W).alloc O).cell g20 (fun e => e)
        have a21 := fun O => ((Chg.refl (fun _ => False) W).alloc O).cell g21 (fun e => e)
        have a22 := fun O => ((Chg.refl (fun _ => False) W).alloc O).cell g22 (fun e => e)
        have a23 := fun O => ((Chg.refl (fun _ => False) W).alloc O).cell g23 (fun e => e)
        have a24 := fun O => ((Chg.refl (fun _ => False) W).alloc O).cell g24 (fun e => e)
        clear g20 g21 g22 g23 g24
        have hlt2 : k < l2.length := by rw [← HL.out]; exact hlt
        have r0 : IntKind.i64.wrap ((k : Int) + 1) = (k : Int) + 1 := IntWalk.i64_in _ (by omega)
        simp only [Part.wt] at hwp
        have HC : Hid (∀ w', Chg (fun _ => False) W w' → Calls Tryd.prog 8 #[.slice Aw1 wd1.length cw1, .slice Aw2 wd2.length cw2] w' fun e w'' => e = .returned (.bool (beqs wd1 wd2)) ∧ Chg (fun _ => False) w' w'') :=
          Lib.hid (fun w' hc => IH w' S1 S2 _ _ wd1 wd2 (by omega) (hw1.stay hc (fun _ _ e => e)) (hw2.stay hc (fun _ _ e => e)))
        clear hw1 hw2 hr1 hr2 hb1 hb2
        cases hk0 : (kd1 != kd2)
        case true =>
          have hR0 : Hid (R = false) := Lib.hid (by
            rw [← HK.out, HB.out, Part.beq, show (kd1 == kd2) = false by simpa using hk0]; rfl)
          have hk0' : (kd1 == kd2) = false := by simpa using hk0
          clear HC
          go_wp2
          go_ret
          exact ⟨by rw [hR0.out]; try rfl, hC.trans (((Chg.refl (fun _ => False) _).alloc _).alloc _) (fun _ h _ => h)⟩
        case false =>
          have hk0' : (kd1 == kd2) = true := by simpa using hk0
          cases hk1 : (qd1 == qd2)
          case false =>
            have hR0 : Hid (R = false) := Lib.hid (by
              rw [← HK.out, HB.out, Part.beq, hk1]; simp)
            clear HC
            go_wp2
            go_ret
            exact ⟨by rw [hR0.out]; try rfl, hC.trans (((Chg.refl (fun _ => False) _).alloc _).alloc _) (fun _ h _ => h)⟩
          case true =>
            have hst : ((bstr td1).toList == (bstr td2).toList) = (td1 == td2) := by rw [ByteArray.toList_eq, ByteArray.toList_eq, bstr_toList, bstr_toList]
            have hso : ((bstr od1).toList == (bstr od2).toList) = (od1 == od2) := by rw [ByteArray.toList_eq, ByteArray.toList_eq, bstr_toList, bstr_toList]
            generalize bstr td1 = xt1 at *
            generalize bstr td2 = xt2 at *
            generalize bstr od1 = xo1 at *
            generalize bstr od2 = xo2 at *
            cases hk2 : (td1 == td2)
            case false =>
              rw [hk2] at hst
              have hR0 : Hid (R = false) := Lib.hid (by
                rw [← HK.out, HB.out, Part.beq, hk2]; simp)
              clear HC
              go_wp2
              go_ret
              exact ⟨by rw [hR0.out]; try rfl, hC.trans (((Chg.refl (fun _ => False) _).alloc _).alloc _) (fun _ h _ => h)⟩
            case true =>
              rw [hk2] at hst
              cases hk3 : (od1 == od2)
              case false =>
                rw [hk3] at hso
                have hR0 : Hid (R = false) := Lib.hid (by
                  rw [← HK.out, HB.out, Part.beq, hk3]; simp)
                clear HC
                go_wp2
                go_ret
                exact ⟨by rw [hR0.out]; try rfl, hC.trans (((Chg.refl (fun _ => False) _).alloc _).alloc _) (fun _ h _ => h)⟩
              case true =>
                rw [hk3] at hso
                cases hk4 : beqs wd1 wd2
                case false =>
                  have hR0 : Hid (R = false) := Lib.hid (by
                    rw [← HK.out, HB.out, Part.beq, hk4]; simp)
                  rw [hk4] at HC
                  go_wp2_with fail
                  refine Calls.mono (HC.out _ (((Chg.refl (fun _ => False) _).alloc _).alloc _)) ?_
                  rintro e w5 ⟨rfl, hC5⟩
                  go_wp2
                  go_ret
                  exact ⟨by rw [hR0.out]; try rfl, (hC.trans (((Chg.refl (fun _ => False) _).alloc _).alloc _) (fun _ h _ => h)).trans hC5 (fun _ h _ => h)⟩
                case true =>
                  have hR0 : Hid (beqs (l1.drop (k + 1)) (l2.drop (k + 1)) = R) := Lib.hid (by
                    rw [← HK.out, HB.out, Part.beq, hk1, hk2, hk3, hk4, hk0']; rfl)
                  rw [hk4] at HC
                  go_wp2_with fail
                  refine Calls.mono (HC.out _ (((Chg.refl (fun _ => False) _).alloc _).alloc _)) ?_
                  rintro e w5 ⟨rfl, hC5⟩
                  go_wp2
                  go_roundg (l1.length - (k + 1))
                  case measure => omega
                  case rel => exact ⟨k + 1, by omega, rfl, (hC.trans (((Chg.refl (fun _ => False) _).alloc _).alloc _) (fun _ h _ => h)).trans hC5 (fun _ h _ => h), hR0⟩
      · have hR0 : Hid (R = true) := Lib.hid (by
          rw [← HK.out, List.drop_eq_nil_of_le (by omega), List.drop_eq_nil_of_le (by rw [← HL.out]; omega)]; rfl)
        go_wp2
        go_ret
        exact ⟨by rw [hR0.out]; try rfl, hC⟩
  · have t1 : ((l1.length : Int) != (l2.length : Int)) = true := by simp; omega
    go_enter Tryd.func8, Tryd.ntmps8
    go_wp2
    go_ret
    exact ⟨by rw [beqs_length l1 l2 hl]; try rfl, Chg.refl _ _⟩
theorem wsame_all : ∀ n, WSame n
  | 0 => fun _ _ _ _ _ _ _ h => absurd h (Nat.not_lt_zero _)
  | n + 1 => wsame_step n (wsame_all n)
theorem wsame_calls (w : World) (S1 S2 : Nat → Prop) (v1 v2 : Value) (l1 l2 : List Part) (h1 : Rep w S1 (.sl 32 5 (Part.ds l1)) [v1]) (h2 : Rep w S2 (.sl 32 5 (Part.ds l2)) [v2]) :
    Calls Tryd.prog 8 #[v1, v2] w fun e w' => e = .returned (.bool (beqs l1 l2)) ∧ Chg (fun _ => False) w w' :=
  wsame_all (Part.wts l1 + 1) w S1 S2 v1 v2 l1 l2 (Nat.lt_succ_self _) h1 h2
end Go.Proofs.YtdfnkmiabmjolaaDoor
namespace Go.Proofs.YtdfnkmiabmjolaaDoor

/-- Where a word outside braces ends. -/
def Stops (r : Bytes) : Prop := r = [] ∨ ∃ c r', r = c :: r' ∧ metaB c = true
theorem word_stops : ∀ (n deep : Nat) (q : Bool) (l : List Part) (r : Bytes) (l' : List Part) (r' : Bytes), wordF n deep false q l r = .ok l' r' → Stops r'
  | 0, _, _, _, _, _, _, h => by simp [wordF] at h
  | n + 1, deep, q, l, [], l', r', h => by
    rw [wordF] at h
    simp only [Rs.ok.injEq] at h
    exact .inl h.2.symm
  | n + 1, deep, q, l, c :: r, l', r', h => by
    rw [wordF] at h
    split at h
    · rename_i hc
      simp only [Rs.ok.injEq] at h
      exact .inr ⟨c, r, h.2.symm, by simpa using hc⟩
    · split at h
      · split at h
        · exact word_stops n _ _ _ _ _ _ h
        · simp at h
      · split at h
        · split at h
          · simp at h
          · exact word_stops n _ _ _ _ _ _ h
        · split at h
          · split at h
            · exact word_stops n _ _ _ _ _ _ h
            · simp at h
          · split at h
            · simp at h
            · split at h
              · split at h
                · exact word_stops n _ _ _ _ _ _ h
                · simp at h
              · exact word_stops n _ _ _ _ _ _ h

theorem arithF_nz : ∀ (F dp : Nat) (acc r : Bytes) (a : Nat) (e : Int), arithF F dp acc r = .err a e → e ≠ 0
  | F, dp, acc, [], a, e, h => by
    rw [arithF] at h
    simp only [Rs.err.injEq] at h
    omega
  | F, dp, acc, c :: r, a, e, h => by
    rw [arith_cons] at h
    split at h
    · simp only [Rs.err.injEq] at h; omega
    · split at h
      · exact arithF_nz _ _ _ r _ _ h
      · split at h
        · exact arithF_nz _ _ _ r _ _ h
        · split at h
          · split at h
            · simp at h
            · simp only [Rs.err.injEq] at h; omega
          · exact arithF_nz _ _ _ r _ _ h
theorem escape_nz (l : List Part) (r : Bytes) (a : Nat) (e : Int) (h : escape l r = .err a e) : e ≠ 0 := by
  unfold escape at h
  split at h
  · simp at h
  · simp only [Rs.err.injEq] at h; omega

structure ScanNz (n : Nat) : Prop where
  word : ∀ deep br q l r a e, 4 * r.length + 3 ≤ n → wordF n deep br q l r = .err a e → e ≠ 0
  double : ∀ deep F l r a e, 4 * r.length + 6 ≤ n → doubleF n deep F l r = .err a e → e ≠ 0
  dollar : ∀ deep q r a e, 4 * r.length + 5 ≤ n → dollarF n deep q r = .err a e → e ≠ 0
  param : ∀ deep q r a e, 4 * r.length + 8 ≤ n → paramF n deep q r = .err a e → e ≠ 0

theorem scan_nz : ∀ n, ScanNz n
  | 0 => ⟨fun _ _ _ _ _ _ _ h => by omega, fun _ _ _ _ _ _ h => by omega, fun _ _ _ _ _ h => by omega, fun _ _ _ _ _ h => by omega⟩
  | n + 1 => by
    obtain ⟨ihw, ihd, ihs, ihp⟩ := scan_nz n
    obtain ⟨lw, ld, ls, lp⟩ := scan_len n
    refine ⟨?_, ?_, ?_, ?_⟩
    · intro deep br q l r a e hn h
      cases r with
      | nil => simp [wordF] at h
      | cons c r =>
        simp only [List.length_cons] at hn
        rw [wordF] at h
        split at h
        · simp at h
        · split at h
          · split at h
            · rename_i l1 r1 he
              have := escape_len _ _ _ _ he
              exact ihw _ _ _ _ _ _ _ (by simp at this; omega) h
            · rename_i a1 e1 he
              simp only [Rs.err.injEq] at h
              exact h.2 ▸ escape_nz _ _ _ _ he
          · split at h
            · split at h
              · simp only [Rs.err.injEq] at h; omega
              · exact ihw _ _ _ _ _ _ _ (by simp; omega) h
            · split at h
              · split at h
                · rename_i l1 r1 he
                  have := ld _ _ _ _ _ _ he
                  exact ihw _ _ _ _ _ _ _ (by omega) h
                · rename_i a1 e1 he
                  simp only [Rs.err.injEq] at h
                  exact h.2 ▸ ihd _ _ _ _ _ _ (by omega) he
              · split at h
                · simp only [Rs.err.injEq] at h; omega
                · split at h
                  · split at h
                    · rename_i p1 r1 he
                      have := ls _ _ _ _ _ he
                      exact ihw _ _ _ _ _ _ _ (by omega) h
                    · rename_i a1 e1 he
                      simp only [Rs.err.injEq] at h
                      exact h.2 ▸ ihs _ _ _ _ _ (by omega) he
                  · exact ihw _ _ _ _ _ _ _ (by omega) h
    · intro deep F l r a e hn h
      cases r with
      | nil =>
        rw [doubleF] at h
        simp only [Rs.err.injEq] at h; omega
      | cons c r =>
        simp only [List.length_cons] at hn
        rw [doubleF] at h
        split at h
        · simp at h
        · split at h
          · simp only [Rs.err.injEq] at h; omega
          · split at h
            · split at h
              · rename_i p1 r1 he
                have := ls _ _ _ _ _ he
                exact ihd _ _ _ _ _ _ (by omega) h
              · rename_i a1 e1 he
                simp only [Rs.err.injEq] at h
                exact h.2 ▸ ihs _ _ _ _ _ (by omega) he
            · split at h
              · split at h
                · rename_i l1 r1 he
                  have := escape_len _ _ _ _ he
                  exact ihd _ _ _ _ _ _ (by simp at this; omega) h
                · rename_i a1 e1 he
                  simp only [Rs.err.injEq] at h
                  exact h.2 ▸ escape_nz _ _ _ _ he
              · exact ihd _ _ _ _ _ _ (by omega) h
    · intro deep q r a e hn h
      rw [dollarF, dollarG.eq_def] at h
      split at h
      · simp only [Rs.err.injEq] at h; omega
      · split at h
        · simp at h
        · split at h
          · simp at h
          · rename_i c r2
            simp only [List.length_cons] at hn
            split at h
            · simp at h
            · split at h
              · exact ihp _ _ _ _ _ (by omega) h
              · split at h
                · split at h
                  · split at h
                    · simp at h
                    · rename_i a1 e1 he
                      simp only [Rs.err.injEq] at h
                      exact h.2 ▸ arithF_nz _ _ _ _ _ _ he
                  · split at h
                    · simp only [Rs.err.injEq] at h; omega
                    · simp at h
                · simp at h
    · intro deep q r a e hn h
      rw [paramF] at h
      split at h
      · simp only [Rs.err.injEq] at h; omega
      · have key : ∀ (len : Bool) (r1 : Bytes), r1.length ≤ r.length → paramG (wordF n (deep + 1) true q []) (r.length + 2) len q r1 = .err a e → e ≠ 0 := by
          intro len r1 hr1 h
          rw [paramG] at h
          split at h
          · simp only [Rs.err.injEq] at h; omega
          · have hfin : ∀ (t o : Bytes) (l : List Part) (r3 : Bytes), finish (r.length + 2) q t o (.ok l r3) = .err a e → e ≠ 0 := by
              intro t o l r3 h
              rw [finish.eq_def] at h
              dsimp only at h
              split at h
              · simp only [Rs.err.injEq] at h; omega
              · split at h
                · simp at h
                · simp only [Rs.err.injEq] at h; omega
            cases len with
            | true =>
              simp only [if_true, Bool.true_or] at h
              exact hfin _ _ _ _ h
            | false =>
              simp only [Bool.false_or, Bool.false_eq_true, if_false] at h
              by_cases hop : (opM (r1.drop (parameter r1)) == []) = true
              · rw [if_pos hop] at h
                exact hfin _ _ _ _ h
              · rw [if_neg hop] at h
                generalize hw : wordF n (deep + 1) true q [] ((r1.drop (parameter r1)).drop (opM (r1.drop (parameter r1))).length) = W at h
                cases W with
                | ok l r3 => exact hfin _ _ _ _ h
                | err a1 e1 =>
                  simp only [finish, Rs.err.injEq] at h
                  exact h.2 ▸ ihw _ _ _ _ _ _ _ (by simp; omega) hw
        split at h
        · exact key _ _ (by simp) h
        · exact key _ _ (Nat.le_refl _) h

theorem scan_err (r : Bytes) (a : Nat) (e : Int) (h : scan r = .err a e) : e ≠ 0 := (scan_nz _).word _ _ _ _ _ _ _ (Nat.le_refl _) h
theorem scan_ok (r r' : Bytes) (l : List Part) (h : scan r = .ok l r') : Stops r' ∧ Part.wts l + 2 * r'.length ≤ 2 * r.length := by
  refine ⟨word_stops _ _ _ _ _ _ _ h, ?_⟩
  have := ((scan_len _).word _ _ _ _ _ _ _ h).1
  simpa [Part.wts] using this

theorem idx_behind (c : UInt8) (r : Bytes) : ∀ s : Bytes, s.contains c = false → idx c (s ++ c :: r) = some s.length
  | [], _ => by simp [idx]
  | d :: s, h => by
    rw [List.contains_cons] at h
    simp only [Bool.or_eq_false_iff] at h
    have hd : (d == c) = false := by
      have h1 : ¬ c = d := by simpa using h.1
      simpa using fun e => h1 e.symm
    rw [List.cons_append, idx, hd, if_neg (by simp), idx_behind c r s h.2]
    rfl
theorem scan_single (s : Bytes) (h : s.contains 39 = false) : scan (39 :: (s ++ [39])) = .ok [lit s true] [] := by
  have hf : ∃ n, fuel (39 :: (s ++ [39])) = n + 1 + 1 := ⟨4 * (s.length + 2) + 1, by simp [fuel]⟩
  obtain ⟨n, hn⟩ := hf
  rw [scan, hn, wordF, if_neg (by decide), if_neg (by decide), if_pos (by decide), idx_behind 39 [] s h]
  have ht : (s ++ [39]).take s.length = s := by simp
  have hd : (s ++ [39]).drop (s.length + 1) = ([] : Bytes) := by simp
  show wordF (n + 1) 0 false false (add [] (lit ((s ++ [39]).take s.length) true)) ((s ++ [39]).drop (s.length + 1)) = _
  rw [ht, hd, wordF]
  rfl

def plainB (c : UInt8) : Bool := !(c == 34) && !(c == 36) && !(c == 92) && !(c == 96)
theorem double_plain (d F : Nat) (hF : F ≠ 2) : ∀ (s p : Bytes) (n : Nat), s.length + 1 ≤ n → s.all plainB = true → doubleF n d F [lit p true] (s ++ [34]) = .ok [lit (p ++ s) true] []
  | [], p, n, hn, _ => by
    obtain ⟨m, rfl⟩ : ∃ m, n = m + 1 := ⟨n - 1, by omega⟩
    rw [List.nil_append, doubleF, if_pos (by decide), List.append_nil, if_neg (by simp; omega)]
  | c :: s, p, n, hn, h => by
    obtain ⟨m, rfl⟩ : ∃ m, n = m + 1 := ⟨n - 1, by simp at hn; omega⟩
    rw [List.all_cons] at h
    simp only [Bool.and_eq_true, plainB, Bool.not_eq_true'] at h
    obtain ⟨⟨⟨⟨h34, h36⟩, h92⟩, h96⟩, hs⟩ := h
    rw [List.cons_append, doubleF, if_neg (by simp [h34]), if_neg (by simp [h96]), if_neg (by simp [h36]), if_neg (by simp [h92])]
    have ha : add [lit p true] (lit [c] true) = [lit (p ++ [c]) true] := by simp [add, lit, Part.kind, Part.quoted, Part.text, Part.op, Part.word]
    rw [ha, double_plain d F hF s (p ++ [c]) m (by simp at hn; omega) (by simpa [plainB] using hs)]
    simp
theorem scan_double (s : Bytes) (h : s.all plainB = true) : scan (34 :: (s ++ [34])) = .ok [lit s true] [] := by
  obtain ⟨n, hn, hl⟩ : ∃ n, fuel (34 :: (s ++ [34])) = n + 1 + 1 ∧ s.length + 1 ≤ n := ⟨4 * (s.length + 2) + 1, by simp [fuel], by omega⟩
  rw [scan, hn, wordF, if_neg (by decide), if_neg (by decide), if_neg (by decide), if_pos (by decide)]
  have hd : doubleF (n + 1) 0 ((s ++ [34]).length + 1) [] (s ++ [34]) = .ok [lit s true] [] := by
    cases s with
    | nil => rw [List.nil_append, doubleF, if_pos (by decide)]; rfl
    | cons c s =>
      rw [List.all_cons] at h
      simp only [Bool.and_eq_true, plainB, Bool.not_eq_true'] at h
      obtain ⟨⟨⟨⟨h34, h36⟩, h92⟩, h96⟩, hs⟩ := h
      rw [List.cons_append, doubleF, if_neg (by simp [h34]), if_neg (by simp [h96]), if_neg (by simp [h36]), if_neg (by simp [h92])]
      have ha : add [] (lit [c] true) = [lit [c] true] := rfl
      rw [ha, double_plain 0 _ (by simp) s [c] n (by simp at hl; omega) (by simpa [plainB] using hs)]
      rfl
  rw [hd]
  simp only []
  rw [wordF]
theorem scan_dollar (s : Bytes) (h : nameB s = true) : scan (36 :: s) = .ok [.mk 2 false s [] []] [] := by
  simp only [nameB, Bool.and_eq_true, decide_eq_true_eq, beq_iff_eq] at h
  obtain ⟨⟨h1, h2⟩, h3⟩ := h
  have h4 : s ≠ [] := by simpa using h1
  have h5 : 0 < s.length := by cases s with | nil => exact absurd rfl h4 | cons _ _ => simp
  obtain ⟨n, hn⟩ : ∃ n, fuel (36 :: s) = n + 1 + 1 := ⟨4 * (s.length + 1) + 1, by simp [fuel]⟩
  rw [scan, hn, wordF, if_neg (by decide), if_neg (by decide), if_neg (by decide), if_neg (by decide), if_neg (by decide), if_pos (by decide)]
  have hd : dollarF (n + 1) 0 false s = .ok (.mk 2 false s [] []) [] := by
    rw [dollarF, dollarG.eq_def, if_neg (by omega), if_pos (by omega), h3]
    simp
  rw [hd]
  simp only []
  rw [wordF]
  rfl
end Go.Proofs.YtdfnkmiabmjolaaDoor
namespace Go.Proofs.YtdfnkmiabmjolaaDoor
open Go.RowKit
set_option linter.unusedVariables false
set_option linter.unusedSimpArgs false

/-- A word as it is written, if it can be. -/
def printW (ps : List Part) : Option Bytes :=
  if (textP ps).length > 8192 then none
  else match scan (textP ps) with
    | .ok l [] => if beqs l ps then some (textP ps) else none
    | _ => none
def strOf (r : Option Bytes) : ByteArray := match r with | some s => bstr s | none => ⟨#[]⟩
def errOf (r : Option Bytes) : Int := match r with | some _ => 0 | none => 1

set_option maxRecDepth 100000 in
set_option maxHeartbeats 2000000 in
theorem print_calls (w : World) (S : Nat → Prop) (v : Value) (ps : List Part) (hb : Part.wts ps ≤ 20000) (hm : HM w) (h : Rep w S (.sl 32 5 (Part.ds ps)) [v]) :
    Calls Tryd.prog 6 #[v] w fun e w' => e = .returned (.tuple #[.string (strOf (printW ps)), .int .i64 (errOf (printW ps))]) ∧ Chg (fun _ => False) w w' := by
  have hT := text_calls w S v ps hb hm h
  have htl := textP_len ps
  obtain ⟨A, c, rfl⟩ := sl_form2 h
  rw [Part.ds_length] at h hT ⊢
  generalize hr : printW ps = r
  unfold printW at hr
  have HR := Lib.hid hr; clear hr
  generalize htx : textP ps = tx at *
  clear htx
  by_cases hl : tx.length > 8192
  · have hr : Hid (r = none) := Lib.hid (by rw [← HR.out, if_pos hl])
    go_enter Tryd.func6, Tryd.ntmps6
    go_wp2_with fail
    refine Calls.mono hT ?_
    rintro e w1 ⟨rfl, hC1⟩
    go_wp2_with fail
    refine Calls.mono (Scan_bad (bstr tx) 0 _ (.inr (.inr (by rw [bstr_size]; omega)))) ?_
    rintro e w2 ⟨rfl, hC2⟩
    go_wp2
    go_ret2
    exact ⟨by rw [hr.out]; rfl, hC1.trans hC2 (fun _ h _ => h)⟩
  · have HS := fun w => Scan_calls (bstr tx) 0 w (Nat.zero_le _) (by rw [bstr_size]; omega)
    rw [bstr_toList, List.drop_zero] at HS
    have hE := scan_err tx
    have hr : Hid (r = match scan tx with | .ok l [] => if beqs l ps then some tx else none | _ => none) := Lib.hid (by rw [← HR.out, if_neg hl])
    have hsz : (bstr tx).size = tx.length := bstr_size tx
    have q1 : decide ((8192 : Int) < ((bstr tx).size : Int)) = false := by simp; omega
    have q2 : decide (8192 < (bstr tx).size) = false := by simp; omega
    clear HR hl
    generalize scan tx = R at *
    go_enter Tryd.func6, Tryd.ntmps6
    go_wp2_with fail
    refine Calls.mono hT ?_
    rintro e w1 ⟨rfl, hC1⟩
    have HS1 := HS w1
    have h1 := h.stay hC1 (fun _ _ e => e)
    clear HS hT h
    go_wp2_with fail
    refine Calls.mono HS1 ?_
    clear HS1
    rintro e w2 ⟨hC2, hp⟩
    have h2 := h1.stay hC2 (fun _ _ e => e)
    have hC := hC1.trans hC2 (fun _ h _ => h)
    clear hC1 hC2 h1
    cases R with
    | err left x =>
      obtain ⟨rfl, hle⟩ := hp
      have hx := hE left x rfl
      have q5 : (x == 0) = false := by simpa using hx
      have q6 : (x != 0) = true := by simpa using hx
      clear hx hE
      go_wp2
      go_ret2
      exact ⟨by rw [hr.out]; rfl, hC⟩
    | ok l rest =>
      obtain ⟨v1, rfl, ⟨hrl, _⟩, hO⟩ := hp
      obtain ⟨A1, c1, rfl, _, _⟩ := Own.form hO
      rw [Part.ds_length] at hO ⊢
      have HSZ := Lib.hid hsz
      clear hE hsz
      cases rest with
      | cons z zs =>
        have q7 : ((((bstr tx).size - (z :: zs).length : Nat) : Int) == ((bstr tx).size : Int)) = false := by
          rw [beq_eq_false_iff_ne]; simp only [List.length_cons] at hrl ⊢; omega
        have q8 : ((((bstr tx).size - (z :: zs).length : Nat) : Int) != ((bstr tx).size : Int)) = true := by
          rw [bne_iff_ne]; simp only [List.length_cons] at hrl ⊢; omega
        have hr2 : Hid (r = none) := Lib.hid hr.out
        clear hrl
        generalize (bstr tx).size - (z :: zs).length = kk at *
        have q9 : (kk == (bstr tx).size) = false := by rw [beq_eq_false_iff_ne]; rw [beq_eq_false_iff_ne] at q7; omega
        go_wp2
        go_ret2
        exact ⟨by rw [hr2.out]; rfl, hC⟩
      | nil =>
        have hS := wsame_calls w2 _ _ _ _ l ps hO.rep h2
        simp only [List.length_nil, Nat.sub_zero]
        clear hrl
        cases hbq : beqs l ps with
        | true =>
          rw [hbq] at hS
          have hr2 : Hid (r = some tx) := Lib.hid (by rw [hr.out]; simp [hbq])
          clear hr h2 hO hbq
          have HS5 := Lib.hid hS; clear hS
          generalize hbt : bstr tx = tb at *
          have HBT := Lib.hid hbt; clear hbt
          clear htl hb hm q2 HSZ
          go_wp2_with fail
          refine Calls.mono HS5.out ?_
          rintro e w3 ⟨rfl, hC3⟩
          clear HS5 q1
          dsimp only
          go_wp2_with fail
          refine bodyPost_ret (v := .tuple #[.string tb, .int .i64 0]) (by simp [results, Tryd.results6, go_sem]) rfl ?_
          exact ⟨by rw [hr2.out, ← HBT.out]; rfl, hC.trans hC3 (fun _ h _ => h)⟩
        | false =>
          rw [hbq] at hS
          have hr2 : Hid (r = none) := Lib.hid (by rw [hr.out]; simp [hbq])
          clear hr h2 hO hbq
          have HS5 := Lib.hid hS; clear hS
          generalize hbt : bstr tx = tb at *
          have HBT := Lib.hid hbt; clear hbt
          clear htl hb hm q2 HSZ
          go_wp2_with fail
          refine Calls.mono HS5.out ?_
          rintro e w3 ⟨rfl, hC3⟩
          clear HS5 q1
          dsimp only
          go_wp2_with fail
          refine bodyPost_ret (v := .tuple #[.string ⟨#[]⟩, .int .i64 1]) (by simp [results, Tryd.results6, go_sem]) rfl ?_
          exact ⟨by rw [hr2.out]; rfl, hC.trans hC3 (fun _ h _ => h)⟩
end Go.Proofs.YtdfnkmiabmjolaaDoor
namespace Go.Proofs.YtdfnkmiabmjolaaDoor
open Go.RowKit
set_option linter.unusedVariables false
set_option linter.unusedSimpArgs false

theorem quoteP_snoc : ∀ (t : Bytes) (c : UInt8), quoteP (t ++ [c]) = quoteP t ++ (if c == 39 then [39, 92, 39, 39] else [c])
  | [], c => by simp [quoteP]
  | d :: t, c => by rw [List.cons_append, quoteP, quoteP, quoteP_snoc t c, List.append_assoc]
theorem take_len_le (t : Bytes) (j : Nat) : (t.take j).length ≤ t.length := by simp; omega

def RTextSaid (n : Nat) : Prop := ∀ (w : World) (S : Nat → Prop) (v : Value) (ps : List Part), Part.wts ps < n → Part.wts ps ≤ 20000 → Rep w S (.sl 32 5 (Part.ds ps)) [v] →
  Calls Tryd.prog 12 #[v] w fun e w' => e = .returned (.string (bstr (textP ps))) ∧ Chg (fun _ => False) w w'

/- a part that is no text: with quotes and without -/
set_option pp.deepTerms true in
set_option pp.maxSteps 200000 in
set_option maxRecDepth 100000 in
set_option maxHeartbeats 8000000 in
theorem rtext_step (n : Nat) (IH : RTextSaid n) : RTextSaid (n + 1) := by
  intro w S v ps hn hb h
  obtain ⟨A, c, rfl⟩ := sl_form2 h
  rw [Part.ds_length] at h ⊢
  have hmax : ps.length ≤ c ∧ c ≤ maxLen := by
    obtain ⟨_, _, _, h1, h2, h3, _⟩ := h
    simp only [List.cons.injEq, Value.slice.injEq, and_true] at h1
    rw [Part.ds_length] at h2
    exact ⟨by omega, by omega⟩
  unfold maxLen at hmax
  go_enter Tryd.func12, Tryd.ntmps12
  go_wp2
  go_loopg [3, 4] ps.length (fun rk ov i wr => ∃ k : Nat, k + rk = ps.length ∧ i = .int .i64 k ∧ ov = .string (bstr (textP (ps.take k))) ∧ Chg (fun _ => False) w wr)
  case atStart => exact ⟨0, by omega, rfl, rfl, Chg.refl _ _⟩
  case round =>
    obtain ⟨k, hk, rfl, rfl, hC⟩ := hrel
    generalize wr = W at *
    by_cases hlt : k < ps.length
    · obtain ⟨p, hp⟩ : ∃ p, ps[k]? = some p := ⟨ps[k], List.getElem?_eq_getElem hlt⟩
      have hz := h.stay hC (fun _ _ e => e)
      obtain ⟨b1, o1, c1', cs1, hv1, _, _, _, hr1, hl1, hcs1⟩ := sl_get hz (by omega) k p.d (by rw [Part.ds_map, List.getElem?_map, hp]; rfl)
      simp only [Part.ds_length, Value.slice.injEq] at hv1
      obtain ⟨rfl, _, rfl⟩ := hv1
      have HTK := Lib.hid (textP_take ps k p hp)
      have hwt := wt_mem hp
      have hwl := wts_take_le ps k
      have htl := textP_len (ps.take k)
      have r0 : IntKind.i64.wrap ((k : Int) + 1) = (k : Int) + 1 := IntWalk.i64_in _ (by omega)
      obtain ⟨kd, qd, td, od, wd⟩ := p
      obtain ⟨Aw, cw, rfl, hw1, _⟩ := part_rep2 hr1
      have g10 := hcs1 0 _ rfl
      have g11 := hcs1 1 _ rfl
      have g12 := hcs1 2 _ rfl
      have g13 := hcs1 3 _ rfl
      have g14 := hcs1 4 _ rfl
      simp only [Nat.add_zero, ← Nat.add_assoc] at g10 g11 g12 g13 g14
      rw [Part.wt] at hwt
      have hwd := textP_len wd
      have HT : Hid (∀ w', Chg (fun _ => False) W w' → Calls Tryd.prog 12 #[.slice Aw wd.length cw] w' fun e w'' => e = .returned (.string (bstr (textP wd))) ∧ Chg (fun _ => False) w' w'') :=
        Lib.hid (fun w' hc => IH w' S _ wd (by omega) (by omega) (hw1.stay hc (fun _ _ e => e)))
      clear hcs1 hr1 hz hp hl1 hw1
      have e1 : ((bstr od).toList == [108, 101, 110]) = (od == [108, 101, 110]) := by rw [ByteArray.toList_eq, bstr_toList]
      have a1 := cat_law (P := Tryd.prog) ⟨#[36, 40, 40]⟩ (bstr td) [36, 40, 40] td ([36, 40, 40] ++ td) rfl rfl rfl (by simp; omega)
      have a2 := cat_law (P := Tryd.prog) (bstr ([36, 40, 40] ++ td)) ⟨#[41, 41]⟩ ([36, 40, 40] ++ td) [41, 41] ([36, 40, 40] ++ td ++ [41, 41]) rfl rfl rfl (by simp; omega)
      generalize hy1 : bstr ([36, 40, 40] ++ td) = y1 at *
      clear hy1
      have hon : oneP (.mk kd qd td od wd) = oneP (.mk kd qd td od wd) := rfl
      by_cases k1 : kd = 1
      · subst k1
        cases qd with
        | true =>
          have hO : partP (.mk 1 true td od wd) = 39 :: (quoteP td ++ [39]) := by unfold partP; rw [oneP]; rfl
          have hql := quoteP_len td
          generalize hy2 : bstr ([36, 40, 40] ++ td ++ [41, 41]) = y2 at *
          clear hy2 hon e1
          have hts : (bstr td).size = td.length := bstr_size td
          have htn : td.length ≤ 20000 := by omega
          have HTS := Lib.hid hts; clear hts
          go_wp2
          have hCa : Chg (fun _ => False) W (W.alloc (.cells #[.int .i64 1, .bool true, .string (bstr td), .string (bstr od), .slice Aw wd.length cw] 32)) := (Chg.refl _ W).alloc _
          have hcl := row_cells (row_new W (.cells #[.int .i64 1, .bool true, .string (bstr td), .string (bstr od), .slice Aw wd.length cw] 32))
          generalize W.alloc (.cells #[.int .i64 1, .bool true, .string (bstr td), .string (bstr od), .slice Aw wd.length cw] 32) = W2 at *
          clear g10 g11 g12 g13 g14 HT a1 a2
          generalize bstr od = ob at *
          go_loop [6, 7] (fun sv jv => ∃ j : Nat, jv = .int .i64 j ∧ j ≤ td.length ∧ sv = .string (bstr (39 :: quoteP (td.take j)))) (fun _ jv => td.length - (intOf jv).toNat)
          case atStart => exact ⟨0, rfl, Nat.zero_le _, rfl⟩
          case round =>
            obtain ⟨j, rfl, hj, rfl⟩ := hrel
            by_cases hjl : j < td.length
            · have hjs : j < (bstr td).size := by rw [HTS.out]; omega
              have u1 : (0 : Int) ≤ (j : Int) := by omega
              have u2 : (j : Int) < ((bstr td).size : Int) := by omega
              have u3 : IntKind.i64.wrap ((j : Int) + 1) = (j : Int) + 1 := IntWalk.i64_in _ (by omega)
              have u4 : (j : Int) + 1 ≤ ((bstr td).size : Int) := by omega
              have u5 : (0 : Int) ≤ (j : Int) + 1 := by omega
              have u6 : ((j : Int) + 1).toNat = j + 1 := by omega
              have u7 : (j : Int) ≤ (j : Int) + 1 := by omega
              have htj : td.take (j + 1) = td.take j ++ [(bstr td)[j]] := by
                rw [List.take_succ_eq_append_getElem hjl]
                rfl
              have hq2 := quoteP_len (td.take j)
              have hq3 : (td.take j).length ≤ td.length := take_len_le td j
              have hx := extract_one (bstr td) j hjs
              have hqs := quoteP_snoc (td.take j) (bstr td)[j]
              rw [← htj] at hqs
              have HQS := Lib.hid hqs
              clear hqs htj
              generalize hcc : (bstr td)[j] = cc at *
              by_cases h39 : cc = 39
              · have v1 : ((cc.toNat : Int) == 39) = true := by rw [h39]; rfl
                have v0 : ((bstr td)[j].toNat : Int) = (cc.toNat : Int) := by rw [hcc]
                have b1 := cat_law (P := Tryd.prog) (bstr (39 :: quoteP (td.take j))) ⟨#[39, 92, 39, 39]⟩ (39 :: quoteP (td.take j)) [39, 92, 39, 39] (39 :: quoteP (td.take (j + 1))) rfl rfl (by rw [HQS.out, h39]; rfl) (by simp; omega)
                clear hx h39
                generalize bstr (39 :: quoteP (td.take j)) = z1 at *
                generalize hz2 : bstr (39 :: quoteP (td.take (j + 1))) = z2 at *
                have HZ2 := Lib.hid hz2; clear hz2
                go_wp2
                exact ⟨⟨j + 1, rfl, by omega, by rw [HZ2.out]⟩, by simp [intOf]; omega⟩
              · have v1 : ((cc.toNat : Int) == 39) = false := by
                  have : cc.toNat ≠ 39 := fun e => h39 (UInt8.toNat_inj.1 e)
                  simp; omega
                have v0 : ((bstr td)[j].toNat : Int) = (cc.toNat : Int) := by rw [hcc]
                have b1 := cat_law (P := Tryd.prog) (bstr (39 :: quoteP (td.take j))) ((bstr td).extract j (j + 1)) (39 :: quoteP (td.take j)) [cc] (39 :: quoteP (td.take (j + 1))) rfl hx (by rw [HQS.out, if_neg (by simpa using h39)]; rfl) (by simp; omega)
                clear hx h39
                generalize bstr (39 :: quoteP (td.take j)) = z1 at *
                generalize hz2 : bstr (39 :: quoteP (td.take (j + 1))) = z2 at *
                have HZ2 := Lib.hid hz2; clear hz2
                go_wp2
                exact ⟨⟨j + 1, rfl, by omega, by rw [HZ2.out]⟩, by simp [intOf]; omega⟩
            · have hje : j = td.length := by omega
              subst hje
              rw [List.take_length]
              have w1 : decide ((td.length : Int) < ((bstr td).size : Int)) = false := by rw [HTS.out]; simp
              have w2 : decide (td.length < (bstr td).size) = false := by rw [HTS.out]; simp
              have b1 := cat_law (P := Tryd.prog) (bstr (39 :: quoteP td)) ⟨#[39]⟩ (39 :: quoteP td) [39] (39 :: (quoteP td ++ [39])) rfl rfl rfl (by simp; omega)
              have hlq : (39 :: (quoteP td ++ [39])).length = (quoteP td).length + 2 := by simp
              generalize hqt : 39 :: (quoteP td ++ [39]) = qt at *
              clear hqt
              generalize bstr (39 :: quoteP td) = z1 at *
              clear hjl hj
              generalize hx9 : bstr qt = x9 at *
              have HX9 := Lib.hid hx9; clear hx9
              have c9 := cat_law (P := Tryd.prog) (bstr (textP (ps.take k))) x9 (textP (ps.take k)) qt (textP (ps.take k) ++ qt) rfl HX9.out.symm rfl (by omega)
              rw [show textP (ps.take k) ++ qt = textP (ps.take (k + 1)) by rw [HTK.out, hO]] at c9
              generalize ho9 : bstr (textP (ps.take (k + 1))) = o9 at *
              have HO9 := Lib.hid ho9; clear ho9
              generalize bstr (textP (ps.take k)) = o8 at *
              clear htl hwl hwt hwd
              go_wp2
              go_roundg (gk - 1)
              case measure => omega
              case rel => exact ⟨k + 1, by omega, rfl, by rw [HO9.out], hC.trans hCa (fun _ h _ => h)⟩
        | false =>
          have hO : partP (.mk 1 false td od wd) = td := by unfold partP; rw [oneP]; rfl
          generalize hy2 : bstr ([36, 40, 40] ++ td ++ [41, 41]) = y2 at *
          clear hy2 hon e1 HT
          generalize bstr od = ob at *
          generalize hx9 : bstr td = x9 at *
          have HX9 := Lib.hid hx9; clear hx9
          have c9 := cat_law (P := Tryd.prog) (bstr (textP (ps.take k))) x9 (textP (ps.take k)) td (textP (ps.take k) ++ td) rfl HX9.out.symm rfl (by omega)
          rw [show textP (ps.take k) ++ td = textP (ps.take (k + 1)) by rw [HTK.out, hO]] at c9
          generalize ho9 : bstr (textP (ps.take (k + 1))) = o9 at *
          have HO9 := Lib.hid ho9; clear ho9
          generalize bstr (textP (ps.take k)) = o8 at *
          clear htl hwl hwt hwd
          go_wp2
          go_roundg (gk - 1)
          case measure => omega
          case rel => exact ⟨k + 1, by omega, rfl, by rw [HO9.out], hC.trans ((Chg.refl (fun _ => False) W).alloc _) (fun _ h _ => h)⟩
      · have k1b : (kd == 1) = false := by simpa using k1
        have k1c : (kd != 1) = true := by simpa using k1
        have htb : (bstr td).size = td.length := bstr_size td
        by_cases k2 : kd = 2
        · have k2b : (kd == 2) = true := by simpa using k2
          have k3b : (kd == 3) = false := by rw [k2]; rfl
          clear hon
          generalize hy2 : bstr ([36, 40, 40] ++ td ++ [41, 41]) = y2 at *
          clear hy2
          cases ho : (od == [108, 101, 110]) with
          | true =>
            rw [ho] at e1
            have hon : oneP (.mk kd qd td od wd) = [36, 123, 35] ++ td ++ [125] := by rw [oneP, k1b, k2b, ho]; rfl
            have hol : ([36, 123, 35] ++ td ++ [125] : Bytes).length = td.length + 4 := by simp
            have f1 := cat_law (P := Tryd.prog) ⟨#[36, 123, 35]⟩ (bstr td) [36, 123, 35] td ([36, 123, 35] ++ td) rfl rfl rfl (by simp; omega)
            have f2 := cat_law (P := Tryd.prog) (bstr ([36, 123, 35] ++ td)) ⟨#[125]⟩ ([36, 123, 35] ++ td) [125] ([36, 123, 35] ++ td ++ [125]) rfl rfl rfl (by simp; omega)
            generalize hf1 : bstr ([36, 123, 35] ++ td) = xf1 at *
            clear k1 k2 hf1 HT htb ho
            generalize bstr od = ob at *
            generalize hd2 : ([36, 123, 35] ++ td ++ [125] : Bytes) = on at *
            clear hd2
            cases qd with
            | true =>
              have hpp : partP (.mk kd true td od wd) = [34] ++ on ++ [34] := by
                unfold partP
                rw [hon]
                rw [if_pos (by show (true && (kd != 1)) = true; rw [k1c]; rfl)]
                rfl
              have hll : ([34] ++ on ++ [34] : Bytes).length = on.length + 2 := by simp
              have d1 := cat_law (P := Tryd.prog) ⟨#[34]⟩ (bstr on) [34] on ([34] ++ on) rfl rfl rfl (by simp; omega)
              have d2 := cat_law (P := Tryd.prog) (bstr ([34] ++ on)) ⟨#[34]⟩ ([34] ++ on) [34] ([34] ++ on ++ [34]) rfl rfl rfl (by simp; omega)
              generalize hd2 : ([34] ++ on ++ [34] : Bytes) = dd at *
              generalize hd1 : bstr ([34] ++ on) = x8 at *
              generalize hd0 : bstr on = x7 at *
              clear hd0 hd1 hd2
              generalize bstr td = tb at *
              generalize hx9 : bstr dd = x9 at *
              have HX9 := Lib.hid hx9; clear hx9
              have c9 := cat_law (P := Tryd.prog) (bstr (textP (ps.take k))) x9 (textP (ps.take k)) dd (textP (ps.take k) ++ dd) rfl HX9.out.symm rfl (by omega)
              rw [show textP (ps.take k) ++ dd = textP (ps.take (k + 1)) by rw [HTK.out, hpp]] at c9
              generalize ho9 : bstr (textP (ps.take (k + 1))) = o9 at *
              have HO9 := Lib.hid ho9; clear ho9
              generalize bstr (textP (ps.take k)) = o8 at *
              clear htl hwl hwt hwd
              go_wp2
              go_roundg (gk - 1)
              case measure => omega
              case rel => exact ⟨k + 1, by omega, rfl, by rw [HO9.out], hC.trans ((Chg.refl (fun _ => False) W).alloc _) (fun _ h _ => h)⟩
            | false =>
              have hpp : partP (.mk kd false td od wd) = on := by
                unfold partP
                rw [hon]
                rfl
              generalize bstr td = tb at *
              generalize hx9 : bstr on = x9 at *
              have HX9 := Lib.hid hx9; clear hx9
              have c9 := cat_law (P := Tryd.prog) (bstr (textP (ps.take k))) x9 (textP (ps.take k)) on (textP (ps.take k) ++ on) rfl HX9.out.symm rfl (by omega)
              rw [show textP (ps.take k) ++ on = textP (ps.take (k + 1)) by rw [HTK.out, hpp]] at c9
              generalize ho9 : bstr (textP (ps.take (k + 1))) = o9 at *
              have HO9 := Lib.hid ho9; clear ho9
              generalize bstr (textP (ps.take k)) = o8 at *
              clear htl hwl hwt hwd
              go_wp2
              go_roundg (gk - 1)
              case measure => omega
              case rel => exact ⟨k + 1, by omega, rfl, by rw [HO9.out], hC.trans ((Chg.refl (fun _ => False) W).alloc _) (fun _ h _ => h)⟩
          | false =>
            rw [ho] at e1
            have hon : oneP (.mk kd qd td od wd) = [36, 123] ++ td ++ od ++ textP wd ++ [125] := by rw [oneP, k1b, k2b, ho]; rfl
            have hol : ([36, 123] ++ td ++ od ++ textP wd ++ [125] : Bytes).length = td.length + od.length + (textP wd).length + 3 := by
              simp only [List.length_append, List.length_cons, List.length_nil]; omega
            have f1 := cat_law (P := Tryd.prog) ⟨#[36, 123]⟩ (bstr td) [36, 123] td ([36, 123] ++ td) rfl rfl rfl (by simp; omega)
            have f2 := cat_law (P := Tryd.prog) (bstr ([36, 123] ++ td)) (bstr od) ([36, 123] ++ td) od ([36, 123] ++ td ++ od) rfl rfl rfl (by simp; omega)
            have f3 := cat_law (P := Tryd.prog) (bstr ([36, 123] ++ td ++ od)) (bstr (textP wd)) ([36, 123] ++ td ++ od) (textP wd) ([36, 123] ++ td ++ od ++ textP wd) rfl rfl rfl (by simp; omega)
            have f4 := cat_law (P := Tryd.prog) (bstr ([36, 123] ++ td ++ od ++ textP wd)) ⟨#[125]⟩ ([36, 123] ++ td ++ od ++ textP wd) [125] ([36, 123] ++ td ++ od ++ textP wd ++ [125]) rfl rfl rfl (by simp; omega)
            generalize hf1 : bstr ([36, 123] ++ td) = xf1 at *
            generalize hf2 : bstr ([36, 123] ++ td ++ od) = xf2 at *
            generalize hf3 : bstr ([36, 123] ++ td ++ od ++ textP wd) = xf3 at *
            generalize hf4 : bstr (textP wd) = xf4 at *
            clear k1 k2 hf1 hf2 hf3 hf4 htb ho
            generalize bstr od = ob at *
            generalize hd2 : ([36, 123] ++ td ++ od ++ textP wd ++ [125] : Bytes) = on at *
            clear hd2
            cases qd with
            | true =>
              have hpp : partP (.mk kd true td od wd) = [34] ++ on ++ [34] := by
                unfold partP
                rw [hon]
                rw [if_pos (by show (true && (kd != 1)) = true; rw [k1c]; rfl)]
                rfl
              have hll : ([34] ++ on ++ [34] : Bytes).length = on.length + 2 := by simp
              have d1 := cat_law (P := Tryd.prog) ⟨#[34]⟩ (bstr on) [34] on ([34] ++ on) rfl rfl rfl (by simp; omega)
              have d2 := cat_law (P := Tryd.prog) (bstr ([34] ++ on)) ⟨#[34]⟩ ([34] ++ on) [34] ([34] ++ on ++ [34]) rfl rfl rfl (by simp; omega)
              generalize hd2 : ([34] ++ on ++ [34] : Bytes) = dd at *
              generalize hd1 : bstr ([34] ++ on) = x8 at *
              generalize hd0 : bstr on = x7 at *
              clear hd0 hd1 hd2
              generalize bstr td = tb at *
              generalize hx9 : bstr dd = x9 at *
              have HX9 := Lib.hid hx9; clear hx9
              have c9 := cat_law (P := Tryd.prog) (bstr (textP (ps.take k))) x9 (textP (ps.take k)) dd (textP (ps.take k) ++ dd) rfl HX9.out.symm rfl (by omega)
              rw [show textP (ps.take k) ++ dd = textP (ps.take (k + 1)) by rw [HTK.out, hpp]] at c9
              generalize ho9 : bstr (textP (ps.take (k + 1))) = o9 at *
              have HO9 := Lib.hid ho9; clear ho9
              generalize bstr (textP (ps.take k)) = o8 at *
              clear htl hwl hwt hwd
              go_wp2
              have hCa : Chg (fun _ => False) W (W.alloc (.cells #[.int .i64 kd, .bool true, .string tb, .string ob, .slice Aw wd.length cw] 32)) := (Chg.refl _ W).alloc _
              have hcl := row_cells (row_new W (.cells #[.int .i64 kd, .bool true, .string tb, .string ob, .slice Aw wd.length cw] 32))
              have m0 := hcl 0
              have m1 := hcl 1
              have m2 := hcl 2
              have m3 := hcl 3
              have m4 := hcl 4
              simp only [List.getElem?_toArray, List.getElem?_cons_succ, List.getElem?_cons_zero] at m0 m1 m2 m3 m4
              clear hcl g10 g11 g12 g13 g14
              generalize W.alloc (.cells #[.int .i64 kd, .bool true, .string tb, .string ob, .slice Aw wd.length cw] 32) = W2 at *
              go_region_held3 (fun w' => w'.cell? ⟨W.heap.size, 2, none⟩ = some (.string tb) ∧ w'.cell? ⟨W.heap.size, 3, none⟩ = some (.string ob) ∧ w'.cell? ⟨W.heap.size, 4, none⟩ = some (.slice Aw wd.length cw)) (first | go_keep | exact HK.out) ((go_at_call 12; refine Calls.mono (HT.out _ (hCa.drewN 1)) ?_; rintro e w3 ⟨rfl, hC3⟩; have HK := Lib.hid (And.intro (hC3.cell m2 (fun e => e)) (And.intro (hC3.cell m3 (fun e => e)) (hC3.cell m4 (fun e => e))))))
              have n0 := hC3.cell m0 (fun e => e)
              have n1 := hC3.cell m1 (fun e => e)
              clear m0 m1 m2 m3 m4 HK
              go_wp2
              go_roundg (ps.length - (k + 1))
              case measure => omega
              case rel => exact ⟨k + 1, by omega, rfl, by rw [HO9.out], (hC.trans (hCa.drewN 1) (fun _ h _ => h)).trans hC3 (fun _ h _ => h)⟩
            | false =>
              have hpp : partP (.mk kd false td od wd) = on := by
                unfold partP
                rw [hon]
                rfl
              generalize bstr td = tb at *
              generalize hx9 : bstr on = x9 at *
              have HX9 := Lib.hid hx9; clear hx9
              have c9 := cat_law (P := Tryd.prog) (bstr (textP (ps.take k))) x9 (textP (ps.take k)) on (textP (ps.take k) ++ on) rfl HX9.out.symm rfl (by omega)
              rw [show textP (ps.take k) ++ on = textP (ps.take (k + 1)) by rw [HTK.out, hpp]] at c9
              generalize ho9 : bstr (textP (ps.take (k + 1))) = o9 at *
              have HO9 := Lib.hid ho9; clear ho9
              generalize bstr (textP (ps.take k)) = o8 at *
              clear htl hwl hwt hwd
              go_wp2
              have hCa : Chg (fun _ => False) W (W.alloc (.cells #[.int .i64 kd, .bool false, .string tb, .string ob, .slice Aw wd.length cw] 32)) := (Chg.refl _ W).alloc _
              have hcl := row_cells (row_new W (.cells #[.int .i64 kd, .bool false, .string tb, .string ob, .slice Aw wd.length cw] 32))
              have m0 := hcl 0
              have m1 := hcl 1
              have m2 := hcl 2
              have m3 := hcl 3
              have m4 := hcl 4
              simp only [List.getElem?_toArray, List.getElem?_cons_succ, List.getElem?_cons_zero] at m0 m1 m2 m3 m4
              clear hcl g10 g11 g12 g13 g14
              generalize W.alloc (.cells #[.int .i64 kd, .bool false, .string tb, .string ob, .slice Aw wd.length cw] 32) = W2 at *
              go_region_held3 (fun w' => w'.cell? ⟨W.heap.size, 2, none⟩ = some (.string tb) ∧ w'.cell? ⟨W.heap.size, 3, none⟩ = some (.string ob) ∧ w'.cell? ⟨W.heap.size, 4, none⟩ = some (.slice Aw wd.length cw)) (first | go_keep | exact HK.out) ((go_at_call 12; refine Calls.mono (HT.out _ (hCa.drewN 1)) ?_; rintro e w3 ⟨rfl, hC3⟩; have HK := Lib.hid (And.intro (hC3.cell m2 (fun e => e)) (And.intro (hC3.cell m3 (fun e => e)) (hC3.cell m4 (fun e => e))))))
              have n0 := hC3.cell m0 (fun e => e)
              have n1 := hC3.cell m1 (fun e => e)
              clear m0 m1 m2 m3 m4 HK
              go_wp2
              go_roundg (ps.length - (k + 1))
              case measure => omega
              case rel => exact ⟨k + 1, by omega, rfl, by rw [HO9.out], (hC.trans (hCa.drewN 1) (fun _ h _ => h)).trans hC3 (fun _ h _ => h)⟩
        · have k2b : (kd == 2) = false := by simpa using k2
          clear hon
          by_cases k3 : kd = 3
          · have k3b : (kd == 3) = true := by simpa using k3
            generalize hy2 : bstr ([36, 40, 40] ++ td ++ [41, 41]) = y2 at *
            clear hy2
            have hon : oneP (.mk kd qd td od wd) = [36, 40] ++ td ++ [41] := by rw [oneP, k1b, k2b, k3b]; rfl
            have hol : ([36, 40] ++ td ++ [41] : Bytes).length = td.length + 3 := by simp
            have f1 := cat_law (P := Tryd.prog) ⟨#[36, 40]⟩ (bstr td) [36, 40] td ([36, 40] ++ td) rfl rfl rfl (by simp; omega)
            have f2 := cat_law (P := Tryd.prog) (bstr ([36, 40] ++ td)) ⟨#[41]⟩ ([36, 40] ++ td) [41] ([36, 40] ++ td ++ [41]) rfl rfl rfl (by simp; omega)
            generalize hf1 : bstr ([36, 40] ++ td) = xf1 at *
            clear k1 k2 k3 hf1 HT htb e1
            generalize bstr od = ob at *
            generalize hd2 : ([36, 40] ++ td ++ [41] : Bytes) = on at *
            clear hd2
            cases qd with
            | true =>
              have hpp : partP (.mk kd true td od wd) = [34] ++ on ++ [34] := by
                unfold partP
                rw [hon]
                rw [if_pos (by show (true && (kd != 1)) = true; rw [k1c]; rfl)]
                rfl
              have hll : ([34] ++ on ++ [34] : Bytes).length = on.length + 2 := by simp
              have d1 := cat_law (P := Tryd.prog) ⟨#[34]⟩ (bstr on) [34] on ([34] ++ on) rfl rfl rfl (by simp; omega)
              have d2 := cat_law (P := Tryd.prog) (bstr ([34] ++ on)) ⟨#[34]⟩ ([34] ++ on) [34] ([34] ++ on ++ [34]) rfl rfl rfl (by simp; omega)
              generalize hd2 : ([34] ++ on ++ [34] : Bytes) = dd at *
              generalize hd1 : bstr ([34] ++ on) = x8 at *
              generalize hd0 : bstr on = x7 at *
              clear hd0 hd1 hd2
              generalize bstr td = tb at *
              generalize hx9 : bstr dd = x9 at *
              have HX9 := Lib.hid hx9; clear hx9
              have c9 := cat_law (P := Tryd.prog) (bstr (textP (ps.take k))) x9 (textP (ps.take k)) dd (textP (ps.take k) ++ dd) rfl HX9.out.symm rfl (by omega)
              rw [show textP (ps.take k) ++ dd = textP (ps.take (k + 1)) by rw [HTK.out, hpp]] at c9
              generalize ho9 : bstr (textP (ps.take (k + 1))) = o9 at *
              have HO9 := Lib.hid ho9; clear ho9
              generalize bstr (textP (ps.take k)) = o8 at *
              clear htl hwl hwt hwd
              go_wp2
              go_roundg (gk - 1)
              case measure => omega
              case rel => exact ⟨k + 1, by omega, rfl, by rw [HO9.out], hC.trans ((Chg.refl (fun _ => False) W).alloc _) (fun _ h _ => h)⟩
            | false =>
              have hpp : partP (.mk kd false td od wd) = on := by
                unfold partP
                rw [hon]
                rfl
              generalize bstr td = tb at *
              generalize hx9 : bstr on = x9 at *
              have HX9 := Lib.hid hx9; clear hx9
              have c9 := cat_law (P := Tryd.prog) (bstr (textP (ps.take k))) x9 (textP (ps.take k)) on (textP (ps.take k) ++ on) rfl HX9.out.symm rfl (by omega)
              rw [show textP (ps.take k) ++ on = textP (ps.take (k + 1)) by rw [HTK.out, hpp]] at c9
              generalize ho9 : bstr (textP (ps.take (k + 1))) = o9 at *
              have HO9 := Lib.hid ho9; clear ho9
              generalize bstr (textP (ps.take k)) = o8 at *
              clear htl hwl hwt hwd
              go_wp2
              go_roundg (gk - 1)
              case measure => omega
              case rel => exact ⟨k + 1, by omega, rfl, by rw [HO9.out], hC.trans ((Chg.refl (fun _ => False) W).alloc _) (fun _ h _ => h)⟩
          · have k3b : (kd == 3) = false := by simpa using k3
            have hon : oneP (.mk kd qd td od wd) = [36, 40, 40] ++ td ++ [41, 41] := by rw [oneP, k1b, k2b, k3b]; rfl
            have hol : ([36, 40, 40] ++ td ++ [41, 41] : Bytes).length = td.length + 5 := by simp
            clear k1 k2 k3 HT htb e1
            generalize bstr od = ob at *
            generalize hd2 : ([36, 40, 40] ++ td ++ [41, 41] : Bytes) = on at *
            clear hd2
            cases qd with
            | true =>
              have hpp : partP (.mk kd true td od wd) = [34] ++ on ++ [34] := by
                unfold partP
                rw [hon]
                rw [if_pos (by show (true && (kd != 1)) = true; rw [k1c]; rfl)]
                rfl
              have hll : ([34] ++ on ++ [34] : Bytes).length = on.length + 2 := by simp
              have d1 := cat_law (P := Tryd.prog) ⟨#[34]⟩ (bstr on) [34] on ([34] ++ on) rfl rfl rfl (by simp; omega)
              have d2 := cat_law (P := Tryd.prog) (bstr ([34] ++ on)) ⟨#[34]⟩ ([34] ++ on) [34] ([34] ++ on ++ [34]) rfl rfl rfl (by simp; omega)
              generalize hd2 : ([34] ++ on ++ [34] : Bytes) = dd at *
              generalize hd1 : bstr ([34] ++ on) = x8 at *
              generalize hd0 : bstr on = x7 at *
              clear hd0 hd1 hd2
              generalize bstr td = tb at *
              generalize hx9 : bstr dd = x9 at *
              have HX9 := Lib.hid hx9; clear hx9
              have c9 := cat_law (P := Tryd.prog) (bstr (textP (ps.take k))) x9 (textP (ps.take k)) dd (textP (ps.take k) ++ dd) rfl HX9.out.symm rfl (by omega)
              rw [show textP (ps.take k) ++ dd = textP (ps.take (k + 1)) by rw [HTK.out, hpp]] at c9
              generalize ho9 : bstr (textP (ps.take (k + 1))) = o9 at *
              have HO9 := Lib.hid ho9; clear ho9
              generalize bstr (textP (ps.take k)) = o8 at *
              clear htl hwl hwt hwd
              go_wp2
              go_roundg (gk - 1)
              case measure => omega
              case rel => exact ⟨k + 1, by omega, rfl, by rw [HO9.out], hC.trans ((Chg.refl (fun _ => False) W).alloc _) (fun _ h _ => h)⟩
            | false =>
              have hpp : partP (.mk kd false td od wd) = on := by
                unfold partP
                rw [hon]
                rfl
              generalize bstr td = tb at *
              generalize hx9 : bstr on = x9 at *
              have HX9 := Lib.hid hx9; clear hx9
              have c9 := cat_law (P := Tryd.prog) (bstr (textP (ps.take k))) x9 (textP (ps.take k)) on (textP (ps.take k) ++ on) rfl HX9.out.symm rfl (by omega)
              rw [show textP (ps.take k) ++ on = textP (ps.take (k + 1)) by rw [HTK.out, hpp]] at c9
              generalize ho9 : bstr (textP (ps.take (k + 1))) = o9 at *
              have HO9 := Lib.hid ho9; clear ho9
              generalize bstr (textP (ps.take k)) = o8 at *
              clear htl hwl hwt hwd
              go_wp2
              go_roundg (gk - 1)
              case measure => omega
              case rel => exact ⟨k + 1, by omega, rfl, by rw [HO9.out], hC.trans ((Chg.refl (fun _ => False) W).alloc _) (fun _ h _ => h)⟩
    · go_wp2
      go_ret
      rw [List.take_of_length_le (by omega)]
      exact ⟨rfl, hC⟩
theorem rtext_all : ∀ n, RTextSaid n
  | 0 => fun _ _ _ _ h => absurd h (Nat.not_lt_zero _)
  | n + 1 => rtext_step n (rtext_all n)
theorem rtext_calls (w : World) (S : Nat → Prop) (v : Value) (ps : List Part) (hb : Part.wts ps ≤ 20000) (h : Rep w S (.sl 32 5 (Part.ds ps)) [v]) :
    Calls Tryd.prog 12 #[v] w fun e w' => e = .returned (.string (bstr (textP ps))) ∧ Chg (fun _ => False) w w' :=
  rtext_all (Part.wts ps + 1) w S v ps (Nat.lt_succ_self _) hb h
end Go.Proofs.YtdfnkmiabmjolaaDoor
namespace Go.Proofs.YtdfnkmiabmjolaaDoor
set_option linter.unusedVariables false
set_option linter.unusedSimpArgs false

/-- Parts behind others. -/
def joinL (a b : List Part) : List Part := b.foldl add a
/-- Does such a byte end the parts: in a word, in braces, in double quotes? -/
def stopR (how : Nat) (c : UInt8) : Bool := if how == 0 then metaB c else if how == 1 then c == 125 else c == 34
mutual
def partsR : Nat → Nat → Nat → List Part → Bytes → Rs (List Part)
  | 0, _, _, _, _ => .err 0 0
  | _ + 1, _, _, l, [] => .ok l []
  | n + 1, how, deep, l, c :: r =>
    if stopR how c then .ok l (c :: r)
    else match nextR n how deep c r with
      | .ok x r' => partsR n how deep (joinL l x) r'
      | .err a e => .err a e
/-- What stands at a byte: its parts. -/
def nextR : Nat → Nat → Nat → UInt8 → Bytes → Rs (List Part)
  | n, how, deep, c, r =>
    if c == 96 then .err (r.length + 1) 61
    else if c == 36 then (match dollarR n deep r with | .ok p r' => .ok [p] r' | .err a e => .err a e)
    else if c == 92 && (how < 2 || dblEsc r) then
      (match r with
        | [] => .err 1 60
        | d :: r' => .ok (if d == 10 then [] else [lit [d] true]) r')
    else if decide (how < 2) && c == 39 then (match idx 39 r with | none => .err (r.length + 1) 60 | some k => .ok [lit (r.take k) true] (r.drop (k + 1)))
    else if decide (how < 2) && c == 34 then
      (match n with
        | 0 => .err 0 0
        | n + 1 => match partsR (n + 1) 2 deep [] r with
          | .ok l (_ :: r') => .ok (if r'.length + 1 == r.length then [lit [] true] else allL [] l) r'
          | .ok _ [] => .err (r.length + 1) 60
          | .err a e => .err a e)
    else .ok [lit [c] false] r
def dollarR : Nat → Nat → Bytes → Rs Part
  | 0, _, _ => .err 0 0
  | n + 1, deep, r => dollarG (paramR n deep) false r
def paramR : Nat → Nat → Bytes → Rs Part
  | 0, _, _ => .err 0 0
  | n + 1, deep, r => if deep + 1 > 16 then .err (r.length + 2) 63 else paramG (partsR n 1 (deep + 1) []) (r.length + 2) (lenB r) false (if lenB r then r.drop 1 else r)
end
def scanR (s : Bytes) : Rs (List Part) := partsR (fuel s) 0 0 [] s
end Go.Proofs.YtdfnkmiabmjolaaDoor
namespace Go.Proofs.YtdfnkmiabmjolaaDoor
set_option linter.unusedVariables false
set_option linter.unusedSimpArgs false

def mergeB (m p : Part) : Bool := p.kind == 1 && m.kind == 1 && m.quoted == p.quoted
def merged (m p : Part) : Part := .mk m.kind m.quoted (m.text ++ p.text) m.op m.word
theorem add_last (l : List Part) (m p : Part) : add (l ++ [m]) p = if mergeB m p then l ++ [merged m p] else l ++ [m, p] := add_snoc l m p
theorem addN (p : Part) : add [] p = [p] := rfl
theorem add_add (A : List Part) (m p : Part) (h : mergeB m p = true) : add (add A m) p = add A (merged m p) := by
  have h0 := h
  simp only [mergeB, Bool.and_eq_true, beq_iff_eq] at h
  obtain ⟨⟨h1, h2⟩, h3⟩ := h
  rcases snoc_cases A with rfl | ⟨i, a, rfl⟩
  · rw [addN, addN, show [m] = [] ++ [m] from rfl, add_last, if_pos h0]
    rfl
  · rw [add_last]
    have e : mergeB a (merged m p) = mergeB a m := by simp [mergeB, merged, Part.kind, Part.quoted]
    by_cases hm : mergeB a m = true
    · rw [if_pos hm, add_last, add_last, e, if_pos hm]
      have hm2 := hm
      simp only [mergeB, Bool.and_eq_true, beq_iff_eq] at hm2
      rw [if_pos (by
        show (p.kind == 1 && a.kind == 1 && a.quoted == p.quoted) = true
        rw [h1, hm2.1.2, hm2.2, h3]
        simp)]
      simp [merged, Part.kind, Part.quoted, Part.text, Part.op, Part.word]
    · rw [if_neg hm, show i ++ [a, m] = (i ++ [a]) ++ [m] by simp, add_last, if_pos h0, add_last, e, if_neg hm]
      simp
theorem joinL_nil (A : List Part) : joinL A [] = A := rfl
theorem joinL_one (A : List Part) (p : Part) : joinL A [p] = add A p := rfl
theorem joinL_app (A X Y : List Part) : joinL A (X ++ Y) = joinL (joinL A X) Y := by simp [joinL]
theorem joinL_add (A X : List Part) (p : Part) : joinL A (add X p) = add (joinL A X) p := by
  rcases snoc_cases X with rfl | ⟨i, m, rfl⟩
  · rfl
  · rw [add_last, joinL_app]
    by_cases hm : mergeB m p = true
    · rw [if_pos hm, joinL_app, joinL_one, joinL_one, add_add _ _ _ hm]
    · rw [if_neg hm, joinL_app]
      rfl
theorem joinL_join : ∀ (A X Y : List Part), joinL A (joinL X Y) = joinL (joinL A X) Y
  | A, X, [] => rfl
  | A, X, p :: Y => by
    rw [show joinL X (p :: Y) = joinL (add X p) Y from rfl, joinL_join A (add X p) Y, joinL_add]
    rfl
theorem allL_map : ∀ (A l : List Part), allL A l = joinL A (l.map allP)
  | A, [] => by rw [allL]; rfl
  | A, p :: l => by rw [allL, allL_map (add A (allP p)) l]; rfl
theorem merge_all (m p : Part) (h : mergeB m p = true) : mergeB (allP m) (allP p) = true ∧ allP (merged m p) = merged (allP m) (allP p) := by
  obtain ⟨k, q, t, o, w⟩ := m
  obtain ⟨k', q', t', o', w'⟩ := p
  simp only [mergeB, Part.kind, Part.quoted, Bool.and_eq_true, beq_iff_eq] at h
  obtain ⟨⟨h1, h2⟩, h3⟩ := h
  constructor
  · simp [mergeB, allP, Part.kind, Part.quoted, h1, h2]
  · simp [merged, allP, Part.kind, Part.quoted, Part.text, Part.op, Part.word]
theorem allL_add (A X : List Part) (p : Part) : allL A (add X p) = add (allL A X) (allP p) := by
  rw [allL_map, allL_map]
  rcases snoc_cases X with rfl | ⟨i, m, rfl⟩
  · rfl
  · rw [add_last, List.map_append, joinL_app]
    by_cases hm : mergeB m p = true
    · obtain ⟨h1, h2⟩ := merge_all m p hm
      rw [if_pos hm, List.map_append, joinL_app]
      show add _ (allP (merged m p)) = add (add _ (allP m)) (allP p)
      rw [h2, add_add _ _ _ h1]
    · rw [if_neg hm, List.map_append, joinL_app]
      rfl
theorem allL_join : ∀ (A X Y : List Part), allL A (joinL X Y) = allL (allL A X) Y
  | A, X, [] => by rw [joinL_nil, allL_map (allL A X)]; rfl
  | A, X, p :: Y => by
    rw [show joinL X (p :: Y) = joinL (add X p) Y from rfl, allL_join A (add X p) Y, allL_add, allL]
mutual
theorem allP_idem : ∀ p : Part, allP (allP p) = allP p
  | .mk k q t o w => by
    have h := allP_idems w
    rw [allP, allP]
    congr 1
    rw [allL_map [] w, allL_join, allL_map (allL [] []) (w.map allP), h]
    rfl
theorem allP_idems : ∀ l : List Part, (l.map allP).map allP = l.map allP
  | [] => rfl
  | p :: l => by rw [List.map_cons, List.map_cons, allP_idem p, allP_idems l]
end
theorem allL_all (A l : List Part) : allL A (allL [] l) = allL A l := by
  rw [allL_map [] l, allL_join, allL_map (allL A []) (l.map allP), allP_idems, allL_map A l]
  rfl
theorem joinL_all (A l : List Part) : joinL A (allL [] l) = allL A l := by
  rw [allL_map [] l, joinL_join, allL_map A l]
  rfl
theorem allP_lit (s : Bytes) (q : Bool) : allP (lit s q) = lit s true := by rw [lit, allP, allL]; rfl

/-- What the one comes to, the other comes to, but for f; faults may differ. -/
def EqR {α β : Type} (f : α → β) (x : Rs α) (y : Rs β) : Prop :=
  match x, y with
  | .ok a r, .ok b r' => b = f a ∧ r' = r
  | .err _ _, .err _ _ => True
  | _, _ => False
theorem EqR.ok {α β : Type} {f : α → β} {a : α} {r : Bytes} {y : Rs β} (h : EqR f (.ok a r) y) : y = .ok (f a) r := by
  cases y with
  | ok b r' => obtain ⟨rfl, rfl⟩ := h; rfl
  | err _ _ => exact h.elim
theorem EqR.err {α β : Type} {f : α → β} {l : Nat} {e : Int} {y : Rs β} (h : EqR f (.err l e) y) : ∃ l' e', y = .err l' e' := by
  cases y with
  | ok b r' => exact h.elim
  | err l' e' => exact ⟨l', e', rfl⟩
theorem EqR.mk {α β : Type} {f : α → β} {a : α} {r : Bytes} {y : Rs β} (h : y = .ok (f a) r) : EqR f (.ok a r) y := by rw [h]; exact ⟨rfl, rfl⟩
theorem eqr_err {α β : Type} (f : α → β) (l l' : Nat) (e e' : Int) : EqR f (.err l e : Rs α) (.err l' e' : Rs β) := trivial

/-- behind a $ -/
theorem eq_dollarG (pm : Bytes → Rs Part) (pm' : Bytes → Rs Part) (q : Bool) (h : ∀ r, EqR (fun p => allB p q) (pm r) (pm' r)) (r : Bytes) : EqR (fun p => allB p q) (dollarG pm false r) (dollarG pm' q r) := by
  have hp : ∀ (k : Int) (t : Bytes), (Part.mk k q t [] []) = allB (.mk k false t [] []) q := by
    intro k t
    cases q
    · rfl
    · rw [allB, if_pos rfl, allP, allL]
  have hl : lit [36] q = allB (lit [36] false) q := by
    cases q
    · rfl
    · rw [allB, if_pos rfl, allP_lit]
  unfold dollarG
  split
  · exact eqr_err _ _ _ _ _
  · split
    · exact ⟨hp _ _, rfl⟩
    · cases r with
      | nil => exact ⟨hl, rfl⟩
      | cons c r2 =>
        dsimp only
        split
        · exact ⟨hp _ _, rfl⟩
        · split
          · exact h r2
          · split
            · split
              · cases arithF (r2.length + 2) 0 [] (r2.drop 1) with
                | ok t r' => exact ⟨hp _ _, rfl⟩
                | err a e => exact eqr_err _ _ _ _ _
              · cases inside r2 with
                | none => exact eqr_err _ _ _ _ _
                | some k => exact ⟨hp _ _, rfl⟩
            · exact ⟨hl, rfl⟩
theorem eq_finish (F F' : Nat) (q : Bool) (t o : Bytes) (x y : Rs (List Part)) (h : EqR (fun l => if q then allL [] l else l) x y) : EqR (fun p => allB p q) (finish F false t o x) (finish F' q t o y) := by
  cases x with
  | err a e => obtain ⟨l', e', rfl⟩ := h.err; exact eqr_err _ _ _ _ _
  | ok l r =>
    rw [h.ok]
    cases r with
    | nil => exact eqr_err _ _ _ _ _
    | cons c r4 =>
      simp only [finish]
      split
      · refine EqR.mk ?_
        cases q
        · rfl
        · simp only [allB, if_true, Bool.false_eq_true, if_false]
          rw [allP, allP, allL_all]
      · exact eqr_err _ _ _ _ _
theorem eq_paramG (wd wd' : Bytes → Rs (List Part)) (F F' : Nat) (len q : Bool) (h : ∀ r, EqR (fun l => if q then allL [] l else l) (wd r) (wd' r)) (r1 : Bytes) : EqR (fun p => allB p q) (paramG wd F len false r1) (paramG wd' F' len q r1) := by
  unfold paramG
  split
  · exact eqr_err _ _ _ _ _
  · refine eq_finish _ _ _ _ _ _ _ ?_
    by_cases hc : (len || opM (r1.drop (parameter r1)) == []) = true
    · rw [if_pos hc, if_pos hc]
      refine EqR.mk ?_
      cases q
      · rfl
      · simp [allL]
    · rw [if_neg hc, if_neg hc]
      exact h _

/-- What parts in double quotes come to, and what the program's reading of them does. -/
def EqD (F : Nat) (l X : List Part) (r : Bytes) (x : Rs (List Part)) (y : Rs (List Part)) : Prop :=
  match x with
  | .ok Y (c :: r') => r'.length + 1 ≤ r.length ∧ (r'.length + 1 = r.length → Y = X) ∧ y = .ok (if r'.length + 2 == F then add (joinL l (allL [] Y)) (lit [] true) else joinL l (allL [] Y)) r'
  | .ok _ [] => ∃ a e, y = .err a e
  | .err _ _ => ∃ a e, y = .err a e
structure EqAll (n : Nat) : Prop where
  word : ∀ deep (br : Bool) l r, EqR id (partsR n (if br then 1 else 0) deep l r) (wordF n deep br false l r)
  quoted : ∀ deep X r, EqR (allL []) (partsR n 1 deep X r) (wordF n deep true true (allL [] X) r)
  double : ∀ deep F l X r, EqD F l X r (partsR n 2 deep X r) (doubleF n deep F (joinL l (allL [] X)) r)
  dollar : ∀ deep q r, EqR (fun p => allB p q) (dollarR n deep r) (dollarF n deep q r)
  param : ∀ deep q r, EqR (fun p => allB p q) (paramR n deep r) (paramF n deep q r)
theorem EqD.step {F : Nat} {l X X' : List Part} {r r1 : Bytes} {x y : Rs (List Part)} (h : EqD F l X' r1 x y) (hr : r1.length < r.length) : EqD F l X r x y := by
  cases x with
  | err a e => exact h
  | ok Y s =>
    cases s with
    | nil => exact h
    | cons c r' => exact ⟨by have := h.1; omega, fun e => by have := h.1; omega, h.2.2⟩
theorem nextR_def (n how deep : Nat) (c : UInt8) (r : Bytes) : nextR n how deep c r =
    if c == 96 then .err (r.length + 1) 61
    else if c == 36 then (match dollarR n deep r with | .ok p r' => .ok [p] r' | .err a e => .err a e)
    else if c == 92 && (how < 2 || dblEsc r) then
      (match r with
        | [] => .err 1 60
        | d :: r' => .ok (if d == 10 then [] else [lit [d] true]) r')
    else if decide (how < 2) && c == 39 then (match idx 39 r with | none => .err (r.length + 1) 60 | some k => .ok [lit (r.take k) true] (r.drop (k + 1)))
    else if decide (how < 2) && c == 34 then
      (match n with
        | 0 => .err 0 0
        | n + 1 => match partsR (n + 1) 2 deep [] r with
          | .ok l (_ :: r') => .ok (if r'.length + 1 == r.length then [lit [] true] else allL [] l) r'
          | .ok _ [] => .err (r.length + 1) 60
          | .err a e => .err a e)
    else .ok [lit [c] false] r := by rw [nextR.eq_def]; try rfl
/-- A text in double quotes, in a word: what the program makes of it. -/
theorem next_double {n deep : Nat} (hD : ∀ deep F l X r, EqD F l X r (partsR n 2 deep X r) (doubleF n deep F (joinL l (allL [] X)) r)) (l : List Part) (r : Bytes) :
    match (match n with
        | 0 => (.err 0 0 : Rs (List Part))
        | n + 1 => match partsR (n + 1) 2 deep [] r with
          | .ok l (_ :: r') => .ok (if r'.length + 1 == r.length then [lit [] true] else allL [] l) r'
          | .ok _ [] => .err (r.length + 1) 60
          | .err a e => .err a e) with
    | .ok x r' => doubleF n deep (r.length + 1) l r = .ok (joinL l x) r' ∧ ∀ A, joinL A x = allL A x
    | .err _ _ => ∃ a e, doubleF n deep (r.length + 1) l r = .err a e := by
  have h := hD deep (r.length + 1) l [] r
  rw [show joinL l (allL [] []) = l by rw [allL]; rfl] at h
  cases n with
  | zero => exact ⟨_, _, by rw [doubleF]⟩
  | succ n =>
    dsimp only
    cases hp : partsR (n + 1) 2 deep [] r with
    | err a e => rw [hp] at h; exact h
    | ok Y s =>
      rw [hp] at h
      cases s with
      | nil => exact h
      | cons c r' =>
        obtain ⟨h1, h2, h3⟩ := h
        dsimp only
        rw [h3]
        by_cases he : r'.length + 1 = r.length
        · have hY := h2 he
          rw [if_pos (by simp; omega), if_pos (by simpa using he), hY]
          refine ⟨by rw [allL]; rfl, fun A => ?_⟩
          rw [allL_map, List.map_cons, allP_lit, List.map_nil]
        · rw [if_neg (by simp; omega), if_neg (by simpa using he)]
          exact ⟨rfl, fun A => by rw [joinL_all, allL_all]⟩
theorem joinL_x (l : List Part) (d : UInt8) : joinL l (if d == 10 then [] else [lit [d] true]) = if d == 10 then l else add l (lit [d] true) := by split <;> rfl
theorem eq_all : ∀ n, EqAll n
  | 0 => ⟨fun _ _ _ _ => by rw [partsR, wordF]; exact eqr_err _ _ _ _ _, fun _ _ _ => by rw [partsR, wordF]; exact eqr_err _ _ _ _ _, fun _ _ _ _ _ => by rw [partsR, doubleF]; exact ⟨_, _, rfl⟩,
      fun _ _ _ => by rw [dollarR, dollarF]; exact eqr_err _ _ _ _ _, fun _ _ _ => by rw [paramR, paramF]; exact eqr_err _ _ _ _ _⟩
  | n + 1 => by
    obtain ⟨h1, h2, h3, h4, h5⟩ := eq_all n
    refine ⟨?_, ?_, ?_, ?_, ?_⟩
    · intro deep br l r
      cases r with
      | nil => rw [partsR, wordF]; exact ⟨rfl, rfl⟩
      | cons c r =>
        have hst : stopR (if br then 1 else 0) c = ((br && c == 125) || (!br && metaB c)) := by cases br <;> simp [stopR]
        have hlt : decide ((if br then 1 else 0) < 2) = true := by cases br <;> rfl
        have hlt2 : ((if br then 1 else 0) < 2) = True := by cases br <;> simp
        rw [partsR, wordF, hst]
        by_cases hs : ((br && c == 125) || (!br && metaB c)) = true
        · rw [if_pos hs, if_pos hs]; exact ⟨rfl, rfl⟩
        · rw [if_neg hs, if_neg hs, nextR_def, hlt]
          simp only [hlt2, decide_true, Bool.true_or, Bool.and_true, Bool.true_and]
          by_cases e96 : c = 96
          · subst e96; exact eqr_err _ _ _ _ _
          · by_cases e36 : c = 36
            · subst e36
              have hd := h4 deep false r
              simp only [show ((36 : UInt8) == 96) = false from rfl, show ((36 : UInt8) == 36) = true from rfl, show ((36 : UInt8) == 92) = false from rfl, show ((36 : UInt8) == 39) = false from rfl, show ((36 : UInt8) == 34) = false from rfl, if_true, Bool.false_eq_true, if_false]
              cases hq : dollarR n deep r with
              | err a e =>
                rw [hq] at hd
                obtain ⟨l', e', hd⟩ := hd.err
                rw [hd]
                exact eqr_err _ _ _ _ _
              | ok p r' =>
                rw [hq] at hd
                rw [hd.ok]
                exact h1 deep br _ r'
            · by_cases e92 : c = 92
              · subst e92
                simp only [show ((92 : UInt8) == 96) = false from rfl, show ((92 : UInt8) == 36) = false from rfl, show ((92 : UInt8) == 92) = true from rfl, if_true, Bool.false_eq_true, if_false]
                cases r with
                | nil => exact eqr_err _ _ _ _ _
                | cons d r' =>
                  simp only [escape]
                  rw [joinL_x]
                  exact h1 deep br _ r'
              · by_cases e39 : c = 39
                · subst e39
                  simp only [show ((39 : UInt8) == 96) = false from rfl, show ((39 : UInt8) == 36) = false from rfl, show ((39 : UInt8) == 92) = false from rfl, show ((39 : UInt8) == 39) = true from rfl, if_true, Bool.false_eq_true, if_false]
                  cases idx 39 r with
                  | none => exact eqr_err _ _ _ _ _
                  | some k => exact h1 deep br _ _
                · by_cases e34 : c = 34
                  · subst e34
                    have hd := next_double (deep := deep) h3 l r
                    simp only [show ((34 : UInt8) == 96) = false from rfl, show ((34 : UInt8) == 36) = false from rfl, show ((34 : UInt8) == 92) = false from rfl, show ((34 : UInt8) == 39) = false from rfl, show ((34 : UInt8) == 34) = true from rfl, if_true, Bool.false_eq_true, if_false]
                    revert hd
                    generalize (match n with
                      | 0 => (.err 0 0 : Rs (List Part))
                      | n + 1 => match partsR (n + 1) 2 deep [] r with
                        | .ok l (_ :: r') => .ok (if r'.length + 1 == r.length then [lit [] true] else allL [] l) r'
                        | .ok _ [] => .err (r.length + 1) 60
                        | .err a e => .err a e) = z
                    intro hd
                    cases z with
                    | err a e =>
                      obtain ⟨a', e', hd⟩ := hd
                      rw [hd]
                      exact eqr_err _ _ _ _ _
                    | ok x r' =>
                      rw [show doubleF n deep (r.length + 1) l r = _ from hd.1]
                      exact h1 deep br _ r'
                  · have b96 : (c == 96) = false := by simpa using e96
                    have b36 : (c == 36) = false := by simpa using e36
                    have b92 : (c == 92) = false := by simpa using e92
                    have b39 : (c == 39) = false := by simpa using e39
                    have b34 : (c == 34) = false := by simpa using e34
                    simp only [b96, b36, b92, b39, b34, Bool.false_eq_true, if_false]
                    exact h1 deep br _ r
    · intro deep X r
      cases r with
      | nil => rw [partsR, wordF]; exact ⟨rfl, rfl⟩
      | cons c r =>
        have hst : stopR 1 c = ((true && c == 125) || (!true && metaB c)) := by simp [stopR]
        rw [partsR, wordF, hst]
        by_cases hs : ((true && c == 125) || (!true && metaB c)) = true
        · rw [if_pos hs, if_pos hs]; exact ⟨rfl, rfl⟩
        · rw [if_neg hs, if_neg hs, nextR_def, show decide (1 < 2) = true from rfl]
          simp only [Bool.true_or, Bool.and_true, Bool.true_and]
          by_cases e96 : c = 96
          · subst e96; exact eqr_err _ _ _ _ _
          · by_cases e36 : c = 36
            · subst e36
              have hd := h4 deep true r
              simp only [show ((36 : UInt8) == 96) = false from rfl, show ((36 : UInt8) == 36) = true from rfl, show ((36 : UInt8) == 92) = false from rfl, show ((36 : UInt8) == 39) = false from rfl, show ((36 : UInt8) == 34) = false from rfl, if_true, Bool.false_eq_true, if_false]
              cases hq : dollarR n deep r with
              | err a e =>
                rw [hq] at hd
                obtain ⟨l', e', hd⟩ := hd.err
                rw [hd]
                exact eqr_err _ _ _ _ _
              | ok p r' =>
                rw [hq] at hd
                rw [hd.ok]
                have := h2 deep (joinL X [p]) r'
                rw [joinL_one, allL_add] at this
                exact this
            · by_cases e92 : c = 92
              · subst e92
                simp only [show ((92 : UInt8) == 96) = false from rfl, show ((92 : UInt8) == 36) = false from rfl, show ((92 : UInt8) == 92) = true from rfl, if_true, Bool.false_eq_true, if_false]
                cases r with
                | nil => exact eqr_err _ _ _ _ _
                | cons d r' =>
                  simp only [escape]
                  rw [joinL_x]
                  have := h2 deep (if d == 10 then X else add X (lit [d] true)) r'
                  by_cases hd : (d == 10) = true
                  · rw [if_pos hd] at this ⊢; rw [if_pos hd]; exact this
                  · rw [if_neg hd] at this ⊢
                    rw [allL_add, allP_lit] at this
                    rw [if_neg hd]
                    exact this
              · by_cases e39 : c = 39
                · subst e39
                  simp only [show ((39 : UInt8) == 96) = false from rfl, show ((39 : UInt8) == 36) = false from rfl, show ((39 : UInt8) == 92) = false from rfl, show ((39 : UInt8) == 39) = true from rfl, if_true, Bool.false_eq_true, if_false]
                  cases idx 39 r with
                  | none => exact eqr_err _ _ _ _ _
                  | some k =>
                    have := h2 deep (joinL X [lit (r.take k) true]) (r.drop (k + 1))
                    rw [joinL_one, allL_add, allP_lit] at this
                    exact this
                · by_cases e34 : c = 34
                  · subst e34
                    have hd := next_double (deep := deep) h3 (allL [] X) r
                    simp only [show ((34 : UInt8) == 96) = false from rfl, show ((34 : UInt8) == 36) = false from rfl, show ((34 : UInt8) == 92) = false from rfl, show ((34 : UInt8) == 39) = false from rfl, show ((34 : UInt8) == 34) = true from rfl, if_true, Bool.false_eq_true, if_false]
                    revert hd
                    generalize (match n with
                      | 0 => (.err 0 0 : Rs (List Part))
                      | n + 1 => match partsR (n + 1) 2 deep [] r with
                        | .ok l (_ :: r') => .ok (if r'.length + 1 == r.length then [lit [] true] else allL [] l) r'
                        | .ok _ [] => .err (r.length + 1) 60
                        | .err a e => .err a e) = z
                    intro hd
                    cases z with
                    | err a e =>
                      obtain ⟨a', e', hd⟩ := hd
                      rw [hd]
                      exact eqr_err _ _ _ _ _
                    | ok x r' =>
                      obtain ⟨hd, hx⟩ := hd
                      rw [hd]
                      have := h2 deep (joinL X x) r'
                      rw [allL_join, ← hx] at this
                      exact this
                  · have b96 : (c == 96) = false := by simpa using e96
                    have b36 : (c == 36) = false := by simpa using e36
                    have b92 : (c == 92) = false := by simpa using e92
                    have b39 : (c == 39) = false := by simpa using e39
                    have b34 : (c == 34) = false := by simpa using e34
                    simp only [b96, b36, b92, b39, b34, Bool.false_eq_true, if_false]
                    have := h2 deep (joinL X [lit [c] false]) r
                    rw [joinL_one, allL_add, allP_lit] at this
                    exact this
    · intro deep F l X r
      cases r with
      | nil => rw [partsR, doubleF]; exact ⟨_, _, rfl⟩
      | cons c r =>
        have hst : stopR 2 c = (c == 34) := by simp [stopR]
        rw [partsR, doubleF, hst]
        by_cases hs : (c == 34) = true
        · rw [if_pos hs, if_pos hs]
          exact ⟨by simp, fun _ => rfl, rfl⟩
        · rw [if_neg hs, if_neg hs, nextR_def, show decide (2 < 2) = false from rfl]
          simp only [Bool.false_or, Bool.false_and]
          by_cases e96 : c = 96
          · subst e96; exact ⟨_, _, rfl⟩
          · by_cases e36 : c = 36
            · subst e36
              have hd := h4 deep true r
              simp only [show ((36 : UInt8) == 96) = false from rfl, show ((36 : UInt8) == 36) = true from rfl, if_true, Bool.false_eq_true, if_false]
              cases hq : dollarR n deep r with
              | err a e =>
                rw [hq] at hd
                obtain ⟨l', e', hd⟩ := hd.err
                rw [hd]
                exact ⟨_, _, rfl⟩
              | ok p r' =>
                rw [hq] at hd
                have hlen := ((scan_len n).dollar _ _ _ _ _ hd.ok).2
                rw [hd.ok]
                have := h3 deep F l (joinL X [p]) r'
                rw [joinL_one, allL_add, joinL_add] at this
                exact this.step (by simp; omega)
            · have b96 : (c == 96) = false := by simpa using e96
              have b36 : (c == 36) = false := by simpa using e36
              simp only [b96, b36, Bool.false_eq_true, if_false]
              by_cases he : (c == 92 && dblEsc r) = true
              · rw [if_pos he, if_pos he]
                cases r with
                | nil => simp [dblEsc] at he
                | cons d r' =>
                  simp only [escape]
                  rw [joinL_x]
                  have := h3 deep F l (if d == 10 then X else add X (lit [d] true)) r'
                  by_cases hd : (d == 10) = true
                  · rw [if_pos hd] at this ⊢; rw [if_pos hd]; exact this.step (by simp; omega)
                  · rw [if_neg hd] at this ⊢
                    rw [allL_add, joinL_add, allP_lit] at this
                    rw [if_neg hd]
                    exact this.step (by simp; omega)
              · rw [if_neg he, if_neg he]
                have := h3 deep F l (joinL X [lit [c] false]) r
                rw [joinL_one, allL_add, joinL_add, allP_lit] at this
                exact this.step (by simp)
    · intro deep q r
      rw [dollarR, dollarF]
      exact eq_dollarG _ _ q (fun r => h5 deep q r) r
    · intro deep q r
      rw [paramR, paramF]
      split
      · exact eqr_err _ _ _ _ _
      · refine eq_paramG _ _ _ _ _ _ (fun r => ?_) _
        cases q with
        | false =>
          exact h1 (deep + 1) true [] r
        | true =>
          have := h2 (deep + 1) [] r
          rw [show allL [] [] = [] by rw [allL]] at this
          simpa using this
theorem scan_same (s : Bytes) : EqR id (scanR s) (scan s) := (eq_all (fuel s)).word 0 false [] s
end Go.Proofs.YtdfnkmiabmjolaaDoor
namespace Go.Proofs.YtdfnkmiabmjolaaDoor
set_option linter.unusedVariables false
set_option linter.unusedSimpArgs false

theorem joinL_wt : ∀ (b a : List Part), Part.wts (joinL a b) ≤ Part.wts a + Part.wts b
  | [], a => by simp [joinL, Part.wts]
  | p :: b, a => by
    have h := joinL_wt b (add a p)
    have h2 := add_wt a p
    show Part.wts (joinL (add a p) b) ≤ _
    rw [Part.wts]
    omega
theorem allL_wt (l : List Part) : Part.wts (allL [] l) ≤ Part.wts l := by
  rw [allL_map]
  refine Nat.le_trans (joinL_wt _ _) ?_
  simp only [Part.wts, Nat.zero_add]
  induction l with
  | nil => simp [Part.wts]
  | cons p l ih =>
    have : (allP p).wt ≤ p.wt := allB_wt p true
    simp only [List.map_cons, Part.wts]
    omega
theorem dollarR_len (n deep : Nat) (r r' : Bytes) (p : Part) (h : dollarR n deep r = .ok p r') : p.wt + 2 * r'.length ≤ 2 * r.length + 2 ∧ r'.length ≤ r.length := by
  have h1 := (eq_all n).dollar deep false r
  rw [h] at h1
  have h2 := EqR.ok h1
  exact (scan_len n).dollar deep false r p r' h2
structure PartLen (n : Nat) : Prop where
  parts : ∀ how deep l r l' r', partsR n how deep l r = .ok l' r' → Part.wts l' + 2 * r'.length ≤ Part.wts l + 2 * r.length ∧ r'.length ≤ r.length
  next : ∀ how deep c r l' r', nextR n how deep c r = .ok l' r' → Part.wts l' + 2 * r'.length ≤ 2 * r.length + 2 ∧ r'.length ≤ r.length
theorem next_len (n how deep : Nat) (c : UInt8) (r r' : Bytes) (l' : List Part)
    (ih : ∀ m, m + 1 = n → ∀ how deep l r l' r', partsR n how deep l r = .ok l' r' → Part.wts l' + 2 * r'.length ≤ Part.wts l + 2 * r.length ∧ r'.length ≤ r.length)
    (h : nextR n how deep c r = .ok l' r') : Part.wts l' + 2 * r'.length ≤ 2 * r.length + 2 ∧ r'.length ≤ r.length := by
  rw [nextR_def] at h
  split at h
  · cases h
  split at h
  · split at h
    · rename_i p r1 h1
      cases h
      have := dollarR_len n deep r _ p h1
      simp only [Part.wts]
      omega
    · cases h
  split at h
  · cases r with
    | nil => cases h
    | cons d r1 =>
      simp only [Rs.ok.injEq] at h
      obtain ⟨rfl, rfl⟩ := h
      simp only [List.length_cons]
      split
      · simp only [Part.wts]; omega
      · simp only [Part.wts, lit_wt, List.length_cons, List.length_nil]; omega
  split at h
  · split at h
    · cases h
    · rename_i k hk
      simp only [Rs.ok.injEq] at h
      obtain ⟨rfl, rfl⟩ := h
      have := idx_lt _ _ _ hk
      simp only [Part.wts, lit_wt, List.length_take, List.length_drop]
      omega
  split at h
  · cases n with
    | zero => cases h
    | succ m =>
      simp only at h
      split at h
      · rename_i l x r1 h1
        simp only [Rs.ok.injEq] at h
        obtain ⟨rfl, rfl⟩ := h
        have h2 := ih m rfl 2 deep [] r _ _ h1
        simp only [Part.wts, List.length_cons] at h2
        split
        · simp only [Part.wts, lit_wt, List.length_nil]; omega
        · have := allL_wt l
          omega
      · cases h
      · cases h
  · simp only [Rs.ok.injEq] at h
    obtain ⟨rfl, rfl⟩ := h
    simp only [Part.wts, lit_wt, List.length_cons, List.length_nil]
    omega
theorem parts_len : ∀ n how deep l r l' r', partsR n how deep l r = .ok l' r' → Part.wts l' + 2 * r'.length ≤ Part.wts l + 2 * r.length ∧ r'.length ≤ r.length
  | 0, how, deep, l, r, l', r', h => by rw [partsR] at h; cases h
  | n + 1, how, deep, l, [], l', r', h => by
    rw [partsR] at h
    cases h
    exact ⟨Nat.le_refl _, Nat.le_refl _⟩
  | n + 1, how, deep, l, c :: r, l', r', h => by
    rw [partsR] at h
    split at h
    · cases h
      exact ⟨Nat.le_refl _, Nat.le_refl _⟩
    · split at h
      · rename_i x r1 h1
        have h2 := next_len n how deep c r r1 x (fun m _ => parts_len n) h1
        have h3 := parts_len n how deep _ r1 l' r' h
        have h4 := joinL_wt x l
        simp only [List.length_cons]
        omega
      · cases h
theorem nextR_len (n how deep : Nat) (c : UInt8) (r r' : Bytes) (l' : List Part) (h : nextR n how deep c r = .ok l' r') : Part.wts l' + 2 * r'.length ≤ 2 * r.length + 2 ∧ r'.length ≤ r.length :=
  next_len n how deep c r r' l' (fun _ _ => parts_len n) h
end Go.Proofs.YtdfnkmiabmjolaaDoor
namespace Go.Proofs.YtdfnkmiabmjolaaDoor
open Go.RowKit
set_option linter.unusedVariables false
set_option linter.unusedSimpArgs false

theorem RepE.one {w : World} {S : Nat → Prop} {sz : Nat} : ∀ (ds : List D) (cs : List Value), RepE w S sz ds cs → ∀ u ∈ cs, u.oneCell' = true
  | [], _, h => by intro u hu; cases h; cases hu
  | d :: ds, _, ⟨c1, c2, h1, _, h2, h3⟩ => by
    intro u hu
    rw [h1] at hu
    rcases List.mem_append.1 hu with hu | hu
    · exact Rep.one d c1 h2 u hu
    · exact RepE.one ds c2 h3 u hu
theorem addr_plus (b o j : Nat) : (⟨b, o, none⟩ : Addr).add j = ⟨b, o + j, none⟩ := by unfold Addr.add; split <;> simp_all

/-- What append comes to: its value owns both rows' elements. -/
theorem run_append_src {P : Program} {W : World} (S S2 : Nat → Prop) (t ty e : TypeId) (z : Value) (sz bytes : Nat) (ht : P.underlying t = some (.slice e))
    (hinfo : (P.info? e).map (fun i => (i.zero, i.size, i.bytes)) = some (some z, sz, bytes)) (hz : z.cells.size = sz) (hs0 : 0 < sz) (hb0 : 0 < bytes)
    (v : Value) (xs ds : List D) (A : Option Addr) (c : Nat) (hd : Rep W S2 (.sl e sz ds) [.slice A ds.length c])
    (hS : ∀ k, S2 k → k < W.heap.size → S k ∧ some k ≠ v.ownBlock) (HO : Own W S e sz v xs) (hl : (xs.length + ds.length) * bytes ≤ 140737488355328) :
    ∃ v1 w1, (Builtin.append_ #[t, t] ty #[v, .slice A ds.length c]).run P W = .ok v1 w1 ∧ Own w1 (fun k => S k ∨ W.heap.size ≤ k) e sz v1 (xs ++ ds) ∧ Chg (fun k => some k = v.ownBlock) W w1 ∧
      (v1.ownBlock = v.ownBlock ∨ ∃ b, v1.ownBlock = some b ∧ W.heap.size ≤ b) := by
  obtain ⟨i0, hi, hz0, hz1, hz2⟩ := info_parts hinfo
  obtain ⟨A', c', inner, h1, h2, h3, h4, h5⟩ := hd
  simp only [List.cons.injEq, Value.slice.injEq, and_true, true_and] at h1
  obtain ⟨rfl, rfl⟩ := h1
  have hil := RepE.length h5
  have hlt := fun k hk => Own.lt HO (k := k) hk
  have hlen : xs.length + ds.length ≤ 140737488355328 := Nat.le_trans (Nat.le_mul_of_pos_right _ hb0) hl
  have HO' := HO
  obtain ⟨cs, k1, k2, k3⟩ := HO
  rcases A with _ | ad
  · have hn : inner = [] := by
      cases inner with
      | nil => rfl
      | cons u l =>
        obtain ⟨b, o, e, _⟩ := h4 0 u rfl
        cases e
    subst hn
    have hds : ds = [] := by
      cases ds with
      | nil => rfl
      | cons d l => rw [List.length_nil, List.length_cons, Nat.add_mul] at hil; omega
    subst hds
    refine ⟨v, W, ?_, ?_, Chg.refl _ _, .inl rfl⟩
    · rcases k1.2 with ⟨rfl, _⟩ | ⟨g, cap, cur, rfl, _, _, hnc, _⟩
      · simp [Builtin.append_, run_underlying ht, sizeOf, typeInfo, hi, Builtin.lenOf, Builtin.firstCells]
      · simp [Builtin.append_, run_underlying ht, sizeOf, typeInfo, hi, Builtin.lenOf, Builtin.firstCells, hnc, storeCells]
    · rw [List.append_nil]
      exact HO'.mono (fun _ h _ => .inl h)
  · have hcells : ∀ j u, inner[j]? = some u → W.cell? (ad.add j) = some u := by
      intro j u hu
      obtain ⟨b, o, e, _, hc⟩ := h4 j u hu
      cases e
      rw [addr_plus]
      exact hc
    obtain ⟨v1, w1, hr, hown, hg, _, hat⟩ := run_append_own_at (P := P) W 0 t ty e i0 z sz bytes ht hi hz0 hz1 hz2 hz hs0 v xs.length cs k1 ad ds.length c inner hil hcells (RepE.one _ _ h5) (by simp only [maxLen]; omega) hl (Nat.zero_le _)
    have hat' : v1.ownBlock = v.ownBlock ∨ ∃ b, v1.ownBlock = some b ∧ W.heap.size ≤ b := by
      rcases hat with hat | hat
      · exact .inl hat
      · exact .inr ⟨_, hat, Nat.le_refl _⟩
    refine ⟨v1, w1, hr, ⟨cs ++ inner, by simpa using hown, fun k hk => ?_, ?_⟩, Chg.of_grown hg, hat'⟩
    · rcases hat' with hat | ⟨b, hb, hle⟩
      · exact .inl (k2 k (hat ▸ hk))
      · rw [hb] at hk
        cases hk
        exact .inr hle
    · have ne : ∀ k, k < W.heap.size → some k ≠ v.ownBlock → some k ≠ v1.ownBlock := by
        intro k hk hn
        rcases hat' with hat | ⟨b, hb, hle⟩
        · rw [hat]; exact hn
        · rw [hb]; intro e; cases e; omega
      have sm : ∀ {T : Nat → Prop}, (∀ k, T k → k < W.heap.size → some k ≠ v.ownBlock) → Same T W w1 := fun hT k hk hl => hg.block k hl (hT k hk hl)
      exact RepE.append (RepE.move (sm (fun k hk _ => hk.2)) (fun k hk hl => ⟨.inl hk.1, ne k hl hk.2⟩) _ _ _ k3) (RepE.move (sm (fun k hk hl => (hS k hk hl).2)) (fun k hk hl => ⟨.inl (hS k hk hl).1, ne k hl (hS k hk hl).2⟩) _ _ _ h5)

theorem own_append_src {P : Program} {W : World} {ops : Array Oper} {rest : List Oper} {o : Oper} {a : Act} {Q : Exit → Act → World → Prop} (S S2 : Nat → Prop) (hw : Region.wanted o (yielded ops a.tmps) = true) (s x : Operand) (t e : TypeId) (z : Value) (sz bytes : Nat)
    (ho : o.op = .call { callee := .builtin .append, args := #[s, x], argTypes := #[t, t] }) (ht : P.underlying t = some (.slice e))
    (hinfo : (P.info? e).map (fun i => (i.zero, i.size, i.bytes)) = some (some z, sz, bytes)) (hz : z.cells.size = sz) (hs0 : 0 < sz) (hb0 : 0 < bytes)
    (v : Value) (xs ds : List D) (A : Option Addr) (n c : Nat) (hn : n = ds.length) (hs : a.eval s = v) (hx : a.eval x = .slice A n c) (hd : Rep W S2 (.sl e sz ds) [.slice A n c])
    (hS : ∀ k, S2 k → k < W.heap.size → S k ∧ some k ≠ v.ownBlock) (HO : Own W S e sz v xs) (hl : (xs.length + ds.length) * bytes ≤ 140737488355328)
    (h : ∀ v1 w1, Own w1 (fun k => S k ∨ W.heap.size ≤ k) e sz v1 (xs ++ ds) → Chg (fun k => some k = v.ownBlock) W w1 → (v1.ownBlock = v.ownBlock ∨ ∃ b, v1.ownBlock = some b ∧ W.heap.size ≤ b) → wpList P ops Q rest (a.put o.dst v1) w1) :
    wpList P ops Q (o :: rest) a W := by
  subst hn
  obtain ⟨v1, w1, hr, h1, h2, h3⟩ := run_append_src (P := P) S S2 t o.type e z sz bytes ht hinfo hz hs0 hb0 v xs ds A c hd hS HO hl
  unfold wpList
  rw [if_pos hw]
  refine .inl ?_
  unfold Oper.wp execOp
  simp only [ho, resolve, invoke, builtin, Sem.run_bind, Sem.run_pure, Result.andThen_ok, List.map_toArray, List.map_cons, List.map_nil, hs, hx, hr]
  exact h v1 w1 h1 h2 h3
/-- append of one element, in a drawn region. -/
theorem own_append_st {P : Program} (W : World) {W' : World} {ops : Array Oper} {o : Oper} {a : Act} {K : Act → World → Prop} {Q : Exit → Act → World → Prop} {E : Prop} (S S2 : Nat → Prop) (hgd : o.guard = none) (s x : Operand) (t e : TypeId) (z : Value) (sz bytes : Nat)
    (ho : o.op = .call { callee := .builtin .append, args := #[s, x], argTypes := #[t, t] }) (ht : P.underlying t = some (.slice e))
    (hinfo : (P.info? e).map (fun i => (i.zero, i.size, i.bytes)) = some (some z, sz, bytes)) (hz : z.cells.size = sz) (hs0 : 0 < sz) (hb0 : 0 < bytes)
    (v : Value) (xs : List D) (d : D) (ys : List Value) (hs : a.eval s = v) (hx : a.eval x = .slice (some ⟨W.heap.size, 0, none⟩) 1 1) (hd : Rep W S2 d ys) (hys : ys.length = sz) (hW : W' = W.alloc (.cells ys.toArray e))
    (hS : ∀ k, S2 k → k < W.heap.size → S k ∧ some k ≠ v.ownBlock) (HO : Own W S e sz v xs) (hl : (xs.length + 1) * bytes ≤ 140737488355328)
    (h : ∀ v1 w1, Own w1 (fun k => S k ∨ W.heap.size ≤ k) e sz v1 (xs ++ [d]) → W.grownBy w1 v.ownBlock → (v1.ownBlock = v.ownBlock ∨ ∃ b, v1.ownBlock = some b ∧ W.heap.size ≤ b) → K (a.put o.dst v1) w1) :
    if Region.wanted o (yielded ops a.tmps) = true then Oper.wp P o a W' K Q else E := by
  subst hW
  have hw : Region.wanted o (yielded ops a.tmps) = true := by simp [Region.wanted, hgd]
  rw [if_pos hw]
  obtain ⟨i0, hi, hz0, hz1, hz2⟩ := info_parts hinfo
  have hlt := fun k hk => Own.lt HO (k := k) hk
  obtain ⟨cs, h1, h2, h3⟩ := HO
  have hlen : xs.length + 1 ≤ 140737488355328 := Nat.le_trans (Nat.le_mul_of_pos_right _ hb0) hl
  obtain ⟨v1, w1, hr, hown, hg, _, hat⟩ := run_append_own_at (P := P) (W.alloc (.cells ys.toArray e)) 0 t o.type e i0 z sz bytes ht hi hz0 hz1 hz2 hz hs0 v xs.length cs (h1.alloc _) ⟨W.heap.size, 0, none⟩ 1 1 ys (by rw [hys]; simp)
    (by simpa using World.news_of_block (cs := ys.toArray) (t := e) (fr := (0, 0)) (heap_alloc_new W (.cells ys.toArray e))) (Rep.one _ _ hd) (by simp only [maxLen]; omega) hl (by simp)
  have hg' : W.grownBy w1 v.ownBlock := World.grownBy.trans (World.grownBy_alloc W _ _) hg
  have hat' : v1.ownBlock = v.ownBlock ∨ ∃ b, v1.ownBlock = some b ∧ W.heap.size ≤ b := by
    rcases hat with hat | hat
    · exact .inl hat
    · exact .inr ⟨_, hat, by simp⟩
  unfold Oper.wp execOp
  simp only [ho, resolve, invoke, builtin, Sem.run_bind, Sem.run_pure, Result.andThen_ok, List.map_toArray, List.map_cons, List.map_nil, hs, hx, hr]
  refine h v1 w1 ⟨cs ++ ys, by simpa using hown, fun k hk => ?_, ?_⟩ hg' hat'
  · rcases hat' with hat | ⟨b, hb, hle⟩
    · exact .inl (h2 k (hat ▸ hk))
    · rw [hb] at hk
      cases hk
      exact .inr hle
  · have ne : ∀ k, k < W.heap.size → some k ≠ v.ownBlock → some k ≠ v1.ownBlock := by
      intro k hk hn
      rcases hat' with hat | ⟨b, hb, hle⟩
      · rw [hat]; exact hn
      · rw [hb]; intro e; cases e; omega
    have sm : ∀ {T : Nat → Prop}, (∀ k, T k → k < W.heap.size → some k ≠ v.ownBlock) → Same T W w1 := fun hT k hk hl => hg'.block k hl (hT k hk hl)
    refine RepE.snoc (RepE.move (sm (fun k hk _ => hk.2)) (fun k hk hl => ⟨.inl hk.1, ne k hl hk.2⟩) _ _ _ h3) hys (Rep.move (sm (fun k hk hl => (hS k hk hl).2)) (fun k hk hl => ⟨.inl (hS k hk hl).1, ne k hl (hS k hk hl).2⟩) _ _ hd)
/-- A row that was just laid, with nothing in it. -/
theorem own_empty (W : World) (S : Nat → Prop) (e sz : Nat) : Own (W.alloc (.cells #[] e)) (fun k => S k ∨ k = W.heap.size) e sz (.slice (some ⟨W.heap.size, 0, none⟩) 0 0) [] := by
  refine ⟨[], ⟨by simp, .inr ⟨W.heap.size, 0, #[], rfl, Nat.zero_le _, heap_alloc_new W _, Nat.le_refl _, by simp [maxLen], by simp, by simp⟩⟩, fun k hk => ?_, rfl⟩
  simp [Value.ownBlock] at hk
  exact .inr hk.symm
end Go.Proofs.YtdfnkmiabmjolaaDoor
namespace Go.Proofs.YtdfnkmiabmjolaaDoor
open Go.RowKit
set_option linter.unusedVariables false
set_option linter.unusedSimpArgs false

def awakeText : Bytes := [97, 39, 98, 32, 99, 39, 34, 36, 120, 34, 36, 123, 121, 58, 45, 122, 125, 59]
def awakeParts : List Part := [.mk 1 false [97] [] [], .mk 1 true [98, 32, 99] [] [], .mk 2 true [120] [] [], .mk 2 false [121] [58, 45] [.mk 1 false [122] [] []]]
theorem awake_scan : scan awakeText = .ok awakeParts [59] := by kernel_rfl
theorem beqs_refl : ∀ l : List Part, beqs l l = true := by
  have key : ∀ n (p : Part), p.wt ≤ n → Part.beq p p = true := by
    intro n
    induction n with
    | zero => intro p h; obtain ⟨k, q, t, o, w⟩ := p; simp [Part.wt] at h
    | succ n ih =>
      intro p h
      obtain ⟨k, q, t, o, w⟩ := p
      simp only [Part.wt] at h
      have : ∀ l : List Part, Part.wts l ≤ n → beqs l l = true := by
        intro l
        induction l with
        | nil => intro _; rfl
        | cons p l ihl =>
          intro h
          simp only [Part.wts] at h
          rw [beqs, ih p (by omega), ihl (by omega)]; rfl
      rw [Part.beq, this w (by omega)]
      simp
  intro l
  induction l with
  | nil => rfl
  | cons p l ih => rw [beqs, key _ p (Nat.le_refl _), ih]; rfl

theorem row_rd {w : World} {g : Nat} {cs : List Value} {t : TypeId} {S : Nat → Prop} (h : w.heap[g]? = some (.cells cs.toArray t)) (hS : S g) : Rd w S (some ⟨g, 0, none⟩) cs := by
  intro j u hj
  refine ⟨g, 0, rfl, hS, ?_⟩
  rw [Nat.zero_add, row_cells h j]
  simpa using hj

set_option maxRecDepth 100000 in
set_option maxHeartbeats 1000000 in
theorem awake_calls (w : World) : Calls Tryd.prog 5 #[] w fun e w' => e = .returned (.bool true) ∧ Chg (fun _ => False) w w' := by
  go_enter Tryd.func5, Tryd.ntmps5
  go_wp2_with fail
  have hS := Scan_calls ⟨#[97, 39, 98, 32, 99, 39, 34, 36, 120, 34, 36, 123, 121, 58, 45, 122, 125, 59]⟩ 0 w (by decide) (by decide)
  rw [show scan ((⟨#[97, 39, 98, 32, 99, 39, 34, 36, 120, 34, 36, 123, 121, 58, 45, 122, 125, 59]⟩ : ByteArray).data.toList.drop 0) = .ok awakeParts [59] from awake_scan] at hS
  refine Calls.mono hS ?_
  rintro e w1 ⟨hC, v, rfl, hj, hO⟩
  clear hj
  obtain ⟨A, c, rfl, _, _⟩ := Own.form hO
  have hz := hC.size
  go_wp2_with fail
  have r1 := row_alloc (row_new w1 (.cells #[.int .i64 1, .bool false, .string ⟨#[122]⟩, .string ⟨#[]⟩, .slice none 0 0] 32)) (.cells #[.int .i64 1, .bool false, .string ⟨#[97]⟩, .string ⟨#[]⟩, .slice none 0 0, .int .i64 1, .bool true, .string ⟨#[98, 32, 99]⟩, .string ⟨#[]⟩, .slice none 0 0, .int .i64 2, .bool true, .string ⟨#[120]⟩, .string ⟨#[]⟩, .slice none 0 0, .int .i64 2, .bool false, .string ⟨#[121]⟩, .string ⟨#[58, 45]⟩, .slice (some ⟨w1.heap.size, 0, none⟩) 1 1] 32)
  have r2 := row_new (w1.alloc (.cells #[.int .i64 1, .bool false, .string ⟨#[122]⟩, .string ⟨#[]⟩, .slice none 0 0] 32)) (.cells #[.int .i64 1, .bool false, .string ⟨#[97]⟩, .string ⟨#[]⟩, .slice none 0 0, .int .i64 1, .bool true, .string ⟨#[98, 32, 99]⟩, .string ⟨#[]⟩, .slice none 0 0, .int .i64 2, .bool true, .string ⟨#[120]⟩, .string ⟨#[]⟩, .slice none 0 0, .int .i64 2, .bool false, .string ⟨#[121]⟩, .string ⟨#[58, 45]⟩, .slice (some ⟨w1.heap.size, 0, none⟩) 1 1] 32)
  rw [World.size_alloc] at r2
  have hC2 : Chg (fun _ => False) w1 ((w1.alloc (.cells #[.int .i64 1, .bool false, .string ⟨#[122]⟩, .string ⟨#[]⟩, .slice none 0 0] 32)).alloc (.cells #[.int .i64 1, .bool false, .string ⟨#[97]⟩, .string ⟨#[]⟩, .slice none 0 0, .int .i64 1, .bool true, .string ⟨#[98, 32, 99]⟩, .string ⟨#[]⟩, .slice none 0 0, .int .i64 2, .bool true, .string ⟨#[120]⟩, .string ⟨#[]⟩, .slice none 0 0, .int .i64 2, .bool false, .string ⟨#[121]⟩, .string ⟨#[58, 45]⟩, .slice (some ⟨w1.heap.size, 0, none⟩) 1 1] 32)) := ((Chg.refl _ _).alloc _).alloc _
  revert r1 r2 hC2
  generalize (w1.alloc (.cells #[.int .i64 1, .bool false, .string ⟨#[122]⟩, .string ⟨#[]⟩, .slice none 0 0] 32)).alloc (.cells #[.int .i64 1, .bool false, .string ⟨#[97]⟩, .string ⟨#[]⟩, .slice none 0 0, .int .i64 1, .bool true, .string ⟨#[98, 32, 99]⟩, .string ⟨#[]⟩, .slice none 0 0, .int .i64 2, .bool true, .string ⟨#[120]⟩, .string ⟨#[]⟩, .slice none 0 0, .int .i64 2, .bool false, .string ⟨#[121]⟩, .string ⟨#[58, 45]⟩, .slice (some ⟨w1.heap.size, 0, none⟩) 1 1] 32) = w2
  intro r1 r2 hC2
  have hZ : Rep w2 (fun _ => True) (.sl 32 5 (Part.ds [.mk 1 false [122] [] []])) [.slice (some ⟨w1.heap.size, 0, none⟩) 1 1] :=
    ⟨_, _, _, rfl, Nat.le_refl _, by simp [maxLen], row_rd r1 trivial, _, [], rfl, rfl, part_nil w2 _ 1 false ⟨#[122]⟩ [122] rfl, rfl⟩
  have hW : Rep w2 (fun _ => True) (.sl 32 5 (Part.ds awakeParts)) [.slice (some ⟨w1.heap.size + 1, 0, none⟩) 4 4] :=
    ⟨_, _, _, rfl, Nat.le_refl _, by simp [maxLen], row_rd r2 trivial,
      [.int .i64 1, .bool false, .string ⟨#[97]⟩, .string ⟨#[]⟩, .slice none 0 0], _, rfl, rfl, part_nil w2 _ 1 false ⟨#[97]⟩ [97] rfl,
      [.int .i64 1, .bool true, .string ⟨#[98, 32, 99]⟩, .string ⟨#[]⟩, .slice none 0 0], _, rfl, rfl, part_nil w2 _ 1 true ⟨#[98, 32, 99]⟩ [98, 32, 99] rfl,
      [.int .i64 2, .bool true, .string ⟨#[120]⟩, .string ⟨#[]⟩, .slice none 0 0], _, rfl, rfl, part_nil w2 _ 2 true ⟨#[120]⟩ [120] rfl,
      [.int .i64 2, .bool false, .string ⟨#[121]⟩, .string ⟨#[58, 45]⟩, .slice (some ⟨w1.heap.size, 0, none⟩) 1 1], [], rfl, rfl, part_rep.2 ⟨_, rfl, hZ⟩, rfl⟩
  refine (same_calls w2 _ _ _ _ awakeParts awakeParts (hO.stay hC2 (fun _ _ e => e)).rep hW).mono ?_
  rintro e w3 ⟨rfl, m, rfl⟩
  go_wp2
  go_ret
  rw [beqs_refl]
  exact ⟨rfl, (hC.trans hC2 (fun _ h _ => h)).drewN _⟩
end Go.Proofs.YtdfnkmiabmjolaaDoor
namespace Go.Proofs.YtdfnkmiabmjolaaDoor
open Go.RowKit
set_option linter.unusedVariables false
set_option linter.unusedSimpArgs false

theorem rletter_calls (n : Int) (w : World) : Calls Tryd.prog 70 #[.int .u8 n] w fun e w' => e = .returned (.bool (letterB n)) ∧ w = w' := by
  unfold letterB
  by_cases h1 : n = 95
  · subst h1
    go_enter Tryd.func70, Tryd.ntmps70
    go_wp2
    go_ret
    exact ⟨by simp, rfl⟩
  · have h1' : (n == 95) = false := by simpa using h1
    by_cases h2 : 97 ≤ n <;> by_cases h3 : n ≤ 122 <;> by_cases h4 : 65 ≤ n <;> by_cases h5 : n ≤ 90
    all_goals first | (exfalso; omega) | skip
    all_goals
      go_enter Tryd.func70, Tryd.ntmps70
      go_wp2
      go_ret
      exact ⟨by simp [*], rfl⟩
theorem rdigit_calls (n : Int) (w : World) : Calls Tryd.prog 61 #[.int .u8 n] w fun e w' => e = .returned (.bool (digitB n)) ∧ w = w' := by
  unfold digitB
  by_cases h2 : 48 ≤ n <;> by_cases h3 : n ≤ 57
  all_goals
    go_enter Tryd.func61, Tryd.ntmps61
    go_wp2
    go_ret
    exact ⟨by simp [*], rfl⟩


set_option maxHeartbeats 1000000 in
theorem rhas_calls (s : ByteArray) (c : UInt8) (w : World) (hs : s.size ≤ 140737488355328) : Calls Tryd.prog 44 #[.string s, .int .u8 c.toNat] w fun e w' => e = .returned (.bool (s.data.toList.contains c)) ∧ w = w' := by
  generalize hR : s.data.toList.contains c = R
  have HR := Lib.hid hR; clear hR
  go_enter Tryd.func44, Tryd.ntmps44
  go_wp2
  go_loop [5] (fun n => ∃ k : Nat, k ≤ s.size ∧ n = .int .i64 k ∧ Hid ((s.data.toList.drop k).contains c = R)) (fun n => s.size - (intOf n).toNat)
  case atStart => exact ⟨0, by omega, rfl, Lib.hid (by simpa using HR.out)⟩
  case round =>
    obtain ⟨k, hk, rfl, HK⟩ := hrel
    by_cases hlt : k < s.size
    · have HD := Lib.hid (byte_drop s k hlt)
      have hb := byte_eq s[k] c
      cases hc : s[k] == c
      · rw [hc] at hb
        go_wp2
        go_round
        case rel => exact ⟨k + 1, by omega, by go_num, Lib.hid (by rw [← HK.out, HD.out, List.contains_cons, byte_comm, hc]; rfl)⟩
        case measure => simp [intOf]; omega
      · rw [hc] at hb
        have HR1 : Hid (R = true) := Lib.hid (by rw [← HK.out, HD.out, List.contains_cons, byte_comm, hc]; rfl)
        go_wp2
        go_ret
        exact ⟨ret_bool HR1.out.symm, rfl⟩
    · have HR1 : Hid (R = false) := Lib.hid (by rw [← HK.out, drop_end s k hlt]; rfl)
      go_wp2
      go_ret
      exact ⟨ret_bool HR1.out.symm, rfl⟩

theorem rmeta_calls (c : UInt8) (w : World) : Calls Tryd.prog 31 #[.int .u8 c.toNat] w fun e w' => e = .returned (.bool (metaB c)) ∧ w = w' := by
  have h : Calls Tryd.prog 44 #[.string ⟨#[32, 9, 10, 59, 38, 124, 60, 62, 40, 41]⟩, .int .u8 c.toNat] w fun e w' => e = .returned (.bool (metaB c)) ∧ w = w' := rhas_calls ⟨#[32, 9, 10, 59, 38, 124, 60, 62, 40, 41]⟩ c w (by decide)
  generalize metaB c = b at h ⊢
  go_enter Tryd.func31, Tryd.ntmps31
  go_wp2_with fail
  refine Calls.mono h ?_
  rintro e w' ⟨rfl, rfl⟩
  go_wp2
  go_ret
  exact ⟨rfl, rfl⟩

set_option maxHeartbeats 1000000 in
theorem rnameat_calls (s : ByteArray) (w : World) (hs : s.size ≤ 140737488355328) : Calls Tryd.prog 60 #[.string s, .int .i64 0] w fun e w' => e = .returned (.int .i64 (named s.data.toList)) ∧ w = w' := by
  go_enter Tryd.func60, Tryd.ntmps60
  go_wp2
  go_loop [5] (fun n => ∃ k : Nat, k ≤ s.size ∧ n = .int .i64 k ∧ Hid (k = 0 ∨ named s.data.toList = k + ((s.data.toList.drop k).takeWhile alnum).length)) (fun n => s.size - (intOf n).toNat)
  case atStart => exact ⟨0, by omega, rfl, Lib.hid (.inl rfl)⟩
  case round =>
    obtain ⟨k, hk, rfl, HK⟩ := hrel
    by_cases hlt : k < s.size
    · have hn1 : (0 : Int) ≤ (k : Int) := by omega
      have hn2 : (k : Int) < (s.size : Int) := by omega
      by_cases hk0 : k = 0
      · subst hk0
        have HN := Lib.hid (named_cons s hlt)
        cases h1 : letterB s[0].toNat
        · go_wp2_with (first | (go_at_call 70; refine (rletter_calls _ _).mono ?_; rintro e w' ⟨rfl, rfl⟩) | (go_at_call 61; refine (rdigit_calls _ _).mono ?_; rintro e w' ⟨rfl, rfl⟩))
          go_ret
          exact ⟨ret_int (by rw [HN.out, h1]; rfl), rfl⟩
        · go_wp2_with (first | (go_at_call 70; refine (rletter_calls _ _).mono ?_; rintro e w' ⟨rfl, rfl⟩) | (go_at_call 61; refine (rdigit_calls _ _).mono ?_; rintro e w' ⟨rfl, rfl⟩))
          go_round
          case rel => exact ⟨1, by omega, by go_num, Lib.hid (.inr (by rw [HN.out, h1]; rfl))⟩
          case measure => simp [intOf]; omega
      · have hkp : (0 : Int) < (k : Int) := by omega
        have hst := takeWhile_step (p := alnum) s k hlt
        have ha : alnum s[k] = (letterB s[k].toNat || digitB s[k].toNat) := rfl
        rw [ha] at hst
        have HS := Lib.hid hst; clear hst ha
        have HK1 : Hid (named s.data.toList = k + ((s.data.toList.drop k).takeWhile alnum).length) := Lib.hid (HK.out.resolve_left hk0)
        cases h1 : letterB s[k].toNat
        · cases h2 : digitB s[k].toNat
          · go_wp2_with (first | (go_at_call 70; refine (rletter_calls _ _).mono ?_; rintro e w' ⟨rfl, rfl⟩) | (go_at_call 61; refine (rdigit_calls _ _).mono ?_; rintro e w' ⟨rfl, rfl⟩))
            go_ret
            exact ⟨ret_int (by rw [HK1.out, HS.out]; simp [h1, h2]), rfl⟩
          · go_wp2_with (first | (go_at_call 70; refine (rletter_calls _ _).mono ?_; rintro e w' ⟨rfl, rfl⟩) | (go_at_call 61; refine (rdigit_calls _ _).mono ?_; rintro e w' ⟨rfl, rfl⟩))
            go_round
            case rel => exact ⟨k + 1, by omega, by go_num, Lib.hid (.inr (by rw [HK1.out, HS.out]; simp [h1, h2]; omega))⟩
            case measure => simp [intOf]; omega
        · go_wp2_with (first | (go_at_call 70; refine (rletter_calls _ _).mono ?_; rintro e w' ⟨rfl, rfl⟩) | (go_at_call 61; refine (rdigit_calls _ _).mono ?_; rintro e w' ⟨rfl, rfl⟩))
          go_round
          case rel => exact ⟨k + 1, by omega, by go_num, Lib.hid (.inr (by rw [HK1.out, HS.out]; simp [h1]; omega))⟩
          case measure => simp [intOf]; omega
    · have hn2 : decide ((k : Int) < (s.size : Int)) = false := by simp; omega
      have HN : Hid (named s.data.toList = k) := Lib.hid (by
        rcases HK.out with h | h
        · subst h
          rw [nil_zero s hlt]; rfl
        · rw [h, takeWhile_end s k hlt]; rfl)
      go_wp2
      go_ret
      exact ⟨ret_int (by rw [HN.out]), rfl⟩


/-- In quotes, or not: what is still to come. -/
def insideQ (n d k : Nat) (q : UInt8) (s : ByteArray) : Int :=
  if q == 0 then insideI n d k (s.data.toList.drop k) else match closed q (s.data.toList.drop k) with | none => -1 | some j => insideI n d (k + (j + 1)) (s.data.toList.drop (k + (j + 1)))
theorem insideQ_in {n d k : Nat} {q : UInt8} {s : ByteArray} (h : (q == 0) = false) : insideQ n d k q s = match closed q (s.data.toList.drop k) with | none => -1 | some j => insideI n d (k + (j + 1)) (s.data.toList.drop (k + (j + 1))) := by
  rw [insideQ, if_neg (by simp [h])]

section
variable {n d k : Nat} {q : UInt8} {s : ByteArray} (h : k < s.size)
include h
theorem insideQ_hit (hq : (q == 0) = false) (hc : (s[k] == q) = true) : insideQ n d k q s = insideQ n d (k + 1) 0 s := by
  rw [insideQ_in hq, byte_drop s k h, closed_cons, if_pos hc]; rfl
theorem insideQ_skip (hq : (q == 0) = false) (hc : (s[k] == q) = false) (h' : (s[k] == 92 && q == 34) = true) : insideQ n d k q s = insideQ n d (k + 2) q s := by
  rw [insideQ_in hq, insideQ_in hq, byte_drop s k h, closed_cons, if_neg (by simp [hc]), if_pos h']
  by_cases hl : k + 1 < s.size
  · rw [byte_drop s (k + 1) hl]
    simp only [show k + 1 + 1 = k + 2 from rfl]
    cases closed q (s.data.toList.drop (k + 2)) with
    | none => rfl
    | some j => simp only [Option.map_some]; rw [show k + (j + 2 + 1) = k + 2 + (j + 1) by omega]
  · rw [drop_end s (k + 1) hl, drop_end s (k + 2) (by omega)]; rfl
theorem insideQ_step (hq : (q == 0) = false) (hc : (s[k] == q) = false) (h' : (s[k] == 92 && q == 34) = false) : insideQ n d k q s = insideQ n d (k + 1) q s := by
  rw [insideQ_in hq, insideQ_in hq, byte_drop s k h, closed_cons, if_neg (by simp [hc]), if_neg (by simp [h'])]
  cases closed q (s.data.toList.drop (k + 1)) with
  | none => rfl
  | some j => simp only [Option.map_some]; rw [show k + (j + 1 + 1) = k + 1 + (j + 1) by omega]
theorem insideQ_bs (hc : (s[k] == 92) = true) : insideQ (n + 1) d k 0 s = insideQ n d (k + 2) 0 s := by
  show insideI (n + 1) d k (s.data.toList.drop k) = insideI n d (k + 2) (s.data.toList.drop (k + 2))
  rw [byte_drop s k h, insideI_bs _ _ _ _ _ hc, List.drop_drop]
theorem insideQ_q (hc : (s[k] == 92) = false) (h' : (s[k] == 39 || s[k] == 34) = true) : insideQ (n + 1) d k 0 s = insideQ n d (k + 1) s[k] s := by
  have h0 : (s[k] == 0) = false := by
    rw [beq_eq_false_iff_ne]
    intro e
    rw [e] at h'
    exact absurd h' (by decide)
  rw [insideQ_in h0]
  show insideI (n + 1) d k (s.data.toList.drop k) = _
  rw [byte_drop s k h, insideI_q _ _ _ _ _ hc h']
  cases closed s[k] (s.data.toList.drop (k + 1)) with
  | none => rfl
  | some j => simp only [List.drop_drop]; rw [show k + (j + 2) = k + 1 + (j + 1) by omega]
theorem insideQ_open (hc : (s[k] == 92) = false) (h' : (s[k] == 39 || s[k] == 34) = false) (h1 : (s[k] == 40) = true) : insideQ (n + 1) d k 0 s = insideQ n (d + 1) (k + 1) 0 s := by
  show insideI (n + 1) d k (s.data.toList.drop k) = insideI n (d + 1) (k + 1) (s.data.toList.drop (k + 1))
  rw [byte_drop s k h, insideI_open _ _ _ _ _ hc h' h1]
theorem insideQ_close (hc : (s[k] == 92) = false) (h' : (s[k] == 39 || s[k] == 34) = false) (h1 : (s[k] == 40) = false) (h2 : (s[k] == 41) = true) (h3 : 0 < d) : insideQ (n + 1) d k 0 s = insideQ n (d - 1) (k + 1) 0 s := by
  show insideI (n + 1) d k (s.data.toList.drop k) = insideI n (d - 1) (k + 1) (s.data.toList.drop (k + 1))
  rw [byte_drop s k h, insideI_close _ _ _ _ _ hc h' h1 h2 h3]
theorem insideQ_found (hc : (s[k] == 92) = false) (h' : (s[k] == 39 || s[k] == 34) = false) (h1 : (s[k] == 40) = false) (h2 : (s[k] == 41) = true) : insideQ (n + 1) 0 k 0 s = k := by
  show insideI (n + 1) 0 k (s.data.toList.drop k) = k
  rw [byte_drop s k h, insideI_found _ _ _ _ hc h' h1 h2]
theorem insideQ_step0 (hc : (s[k] == 92) = false) (h' : (s[k] == 39 || s[k] == 34) = false) (h1 : (s[k] == 40) = false) (h2 : (s[k] == 41) = false) : insideQ (n + 1) d k 0 s = insideQ n d (k + 1) 0 s := by
  show insideI (n + 1) d k (s.data.toList.drop k) = insideI n d (k + 1) (s.data.toList.drop (k + 1))
  rw [byte_drop s k h, insideI_step _ _ _ _ _ hc h' h1 h2]
end

set_option maxRecDepth 100000 in
set_option maxHeartbeats 2000000 in
theorem rinside_calls (s : ByteArray) (w : World) (hs : s.size ≤ 140737488355328) :
    Calls Tryd.prog 64 #[.string s] w fun e w' => e = .returned (.int .i64 (insideI (s.size + 1) 0 0 s.data.toList)) ∧ w = w' := by
  generalize hR : insideI (s.size + 1) 0 0 s.data.toList = R
  have HR := Lib.hid hR; clear hR
  go_enter Tryd.func64, Tryd.ntmps64
  go_wp2
  go_loop [3, 4, 5] (fun dv qv iv => ∃ (d k n : Nat) (q : UInt8), dv = .int .i64 d ∧ qv = .int .u8 q.toNat ∧ iv = .int .i64 k ∧ k ≤ s.size + 1 ∧ d ≤ k ∧ s.size + 1 ≤ n + k ∧ (q = 0 ∨ q = 39 ∨ q = 34) ∧ Hid (1 ≤ n ∧ insideQ n d k q s = R)) (fun dv qv iv => s.size + 2 - (intOf iv).toNat)
  case atStart => exact ⟨0, 0, s.size + 1, 0, rfl, rfl, rfl, by omega, by omega, by omega, .inl rfl, Lib.hid ⟨by omega, by rw [← HR.out]; rfl⟩⟩
  case round =>
    obtain ⟨d, k, n, q, rfl, rfl, rfl, hk, hdk, hnk, hq, HK⟩ := hrel
    by_cases hlt : k < s.size
    · have HD := Lib.hid (byte_drop s k hlt)
      have hn1 : (0 : Int) ≤ (k : Int) := by omega
      have hn2 : (k : Int) < (s.size : Int) := by omega
      have hq92 : ((s[k].toNat : Int) == 92) = (s[k] == 92) := byte_eqn s[k] 92 (by decide)
      have hq39 : ((s[k].toNat : Int) == 39) = (s[k] == 39) := byte_eqn s[k] 39 (by decide)
      have hq34 : ((s[k].toNat : Int) == 34) = (s[k] == 34) := byte_eqn s[k] 34 (by decide)
      have hq40 : ((s[k].toNat : Int) == 40) = (s[k] == 40) := byte_eqn s[k] 40 (by decide)
      have hq41 : ((s[k].toNat : Int) == 41) = (s[k] == 41) := byte_eqn s[k] 41 (by decide)
      rcases hq with rfl | rfl | rfl
      · obtain ⟨m, rfl⟩ : ∃ m, n = m + 1 := ⟨n - 1, by have := HK.out.1; omega⟩
        cases h92 : s[k] == 92
        case true =>
          rw [h92] at hq92
          go_wp2
          go_round
          case rel => exact ⟨d, k + 2, m, 0, by go_num, by go_num, by go_num, by omega, by omega, by omega, .inl rfl, Lib.hid ⟨by omega, by rw [← HK.out.2]; exact (insideQ_bs hlt h92).symm⟩⟩
          case measure => simp [intOf]; omega
        case false =>
          rw [h92] at hq92
          cases h39 : s[k] == 39
          case true =>
            rw [h39] at hq39
            have he : s[k] = 39 := by simpa using h39
            go_wp2
            go_round
            case rel => exact ⟨d, k + 1, m, 39, by go_num, by go_num, by go_num, by omega, by omega, by omega, .inr (.inl rfl), Lib.hid ⟨by omega, by rw [← HK.out.2]; exact ((insideQ_q hlt h92 (by rw [h39]; rfl)).trans (by rw [he])).symm⟩⟩
            case measure => simp [intOf]; omega
          case false =>
            rw [h39] at hq39
            cases h34 : s[k] == 34
            case true =>
              rw [h34] at hq34
              have he : s[k] = 34 := by simpa using h34
              go_wp2
              go_round
              case rel => exact ⟨d, k + 1, m, 34, by go_num, by go_num, by go_num, by omega, by omega, by omega, .inr (.inr rfl), Lib.hid ⟨by omega, by rw [← HK.out.2]; exact ((insideQ_q hlt h92 (by rw [h34]; simp)).trans (by rw [he])).symm⟩⟩
              case measure => simp [intOf]; omega
            case false =>
              rw [h34] at hq34
              have hqq : (s[k] == 39 || s[k] == 34) = false := by rw [h39, h34]; rfl
              cases h40 : s[k] == 40
              case true =>
                rw [h40] at hq40
                go_wp2
                go_round
                case rel => exact ⟨d + 1, k + 1, m, 0, by go_num, by go_num, by go_num, by omega, by omega, by omega, .inl rfl, Lib.hid ⟨by omega, by rw [← HK.out.2]; exact (insideQ_open hlt h92 hqq h40).symm⟩⟩
                case measure => simp [intOf]; omega
              case false =>
                rw [h40] at hq40
                cases h41 : s[k] == 41
                case true =>
                  rw [h41] at hq41
                  by_cases hd0 : d = 0
                  · subst hd0
                    have HR1 : Hid (R = k) := Lib.hid (by rw [← HK.out.2, insideQ_found hlt h92 hqq h40 h41])
                    go_wp2
                    go_ret
                    exact ⟨ret_int HR1.out.symm, rfl⟩
                  · have hd1 : ((d : Int) == 0) = false := by simp; omega
                    have hd2 : (d : Int) - 1 = ((d - 1 : Nat) : Int) := by omega
                    go_wp2
                    go_round
                    case rel => exact ⟨d - 1, k + 1, m, 0, by go_num, by go_num, by go_num, by omega, by omega, by omega, .inl rfl, Lib.hid ⟨by omega, by rw [← HK.out.2]; exact (insideQ_close hlt h92 hqq h40 h41 (by omega)).symm⟩⟩
                    case measure => simp [intOf]; omega
                case false =>
                  rw [h41] at hq41
                  go_wp2
                  go_round
                  case rel => exact ⟨d, k + 1, m, 0, by go_num, by go_num, by go_num, by omega, by omega, by omega, .inl rfl, Lib.hid ⟨by omega, by rw [← HK.out.2]; exact (insideQ_step0 hlt h92 hqq h40 h41).symm⟩⟩
                  case measure => simp [intOf]; omega
      · cases h92 : s[k] == 92
        case true =>
          rw [h92] at hq92
          have h39 : (s[k] == 39) = false := by rw [show s[k] = 92 by simpa using h92]; decide
          rw [h39] at hq39
          go_wp2
          go_round
          case rel => exact ⟨d, k + 1, n, 39, by go_num, by go_num, by go_num, by omega, by omega, by omega, .inr (.inl rfl), Lib.hid ⟨by omega, by rw [← HK.out.2]; exact (insideQ_step hlt rfl h39 (by rw [h92]; rfl)).symm⟩⟩
          case measure => simp [intOf]; omega
        case false =>
          rw [h92] at hq92
          cases h39 : s[k] == 39
          case true =>
            rw [h39] at hq39
            go_wp2
            go_round
            case rel => exact ⟨d, k + 1, n, 0, by go_num, by go_num, by go_num, by omega, by omega, by omega, .inl rfl, Lib.hid ⟨by omega, by rw [← HK.out.2]; exact (insideQ_hit hlt rfl h39).symm⟩⟩
            case measure => simp [intOf]; omega
          case false =>
            rw [h39] at hq39
            go_wp2
            go_round
            case rel => exact ⟨d, k + 1, n, 39, by go_num, by go_num, by go_num, by omega, by omega, by omega, .inr (.inl rfl), Lib.hid ⟨by omega, by rw [← HK.out.2]; exact (insideQ_step hlt rfl h39 (by rw [h92]; rfl)).symm⟩⟩
            case measure => simp [intOf]; omega
      · cases h92 : s[k] == 92
        case true =>
          rw [h92] at hq92
          have h34 : (s[k] == 34) = false := by rw [show s[k] = 92 by simpa using h92]; decide
          rw [h34] at hq34
          go_wp2
          go_round
          case rel => exact ⟨d, k + 2, n, 34, by go_num, by go_num, by go_num, by omega, by omega, by omega, .inr (.inr rfl), Lib.hid ⟨by omega, by rw [← HK.out.2]; exact (insideQ_skip hlt rfl h34 (by rw [h92]; rfl)).symm⟩⟩
          case measure => simp [intOf]; omega
        case false =>
          rw [h92] at hq92
          cases h34 : s[k] == 34
          case true =>
            rw [h34] at hq34
            go_wp2
            go_round
            case rel => exact ⟨d, k + 1, n, 0, by go_num, by go_num, by go_num, by omega, by omega, by omega, .inl rfl, Lib.hid ⟨by omega, by rw [← HK.out.2]; exact (insideQ_hit hlt rfl h34).symm⟩⟩
            case measure => simp [intOf]; omega
          case false =>
            rw [h34] at hq34
            go_wp2
            go_round
            case rel => exact ⟨d, k + 1, n, 34, by go_num, by go_num, by go_num, by omega, by omega, by omega, .inr (.inr rfl), Lib.hid ⟨by omega, by rw [← HK.out.2]; exact (insideQ_step hlt rfl h34 (by rw [h92]; rfl)).symm⟩⟩
            case measure => simp [intOf]; omega
    · have hn2 : decide ((k : Int) < (s.size : Int)) = false := by simp; omega
      have HR1 : Hid (R = -1) := Lib.hid (by
        obtain ⟨h1, h2⟩ := HK.out
        obtain ⟨m, rfl⟩ : ∃ m, n = m + 1 := ⟨n - 1, by omega⟩
        rw [← h2, insideQ, drop_end s k hlt]
        split <;> rfl)
      go_wp2
      go_ret
      exact ⟨ret_int HR1.out.symm, rfl⟩
end Go.Proofs.YtdfnkmiabmjolaaDoor
