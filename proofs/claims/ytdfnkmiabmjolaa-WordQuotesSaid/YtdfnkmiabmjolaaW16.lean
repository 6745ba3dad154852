/- Walks of package word: Scan, and how it catches its faults. -/
import Derived.Test.YtdfnkmiabmjolaaW15
import Derived.Defers
import Derived.Recover
namespace Go.Proofs.Ytdfnkmiabmjolaa
open Go.RowKit
set_option linter.unusedVariables false
set_option linter.unusedSimpArgs false

theorem catch_idle (p q r : Addr) (w : World) :
    CallsD Try.prog 26 #[.pointer (some p), .pointer (some q), .pointer (some r)] .returning w fun e u' w' => e = .returned (.tuple #[]) ∧ u' = .returning ∧ w' = w := by
  refine callsD_of_wpS Try.func26 rfl fun c₀ cs hu => ?_
  apply wpS_seq
  apply wpS_region
  simp [wpOpsS, go_sem, recoverD, hu, Try.ntmps26, Exit.thenS]
  refine wpS_of_wp ?_
  go_wp2
  cases c₀
  simp_all [bodyPostS, results, Try.results26]

theorem assert_fault (v : Value) (w : World) : (Instr.typeAssert (.iface 57 v) 20 57 true).run Try.prog w = .ok (.tuple #[v, .bool true]) w := by kernel_rfl

set_option pp.deepTerms true in
set_option pp.maxSteps 200000 in
set_option maxRecDepth 100000 in
set_option maxHeartbeats 2000000 in
theorem catch_fault (h : Nat) (vp vq vr : Value) (k c : Int) (w : World) (t1 t2 t3 : TypeId) (hp : w.heap[h]? = some (.cells #[vp] t1)) (hq : w.heap[h + 1]? = some (.cells #[vq] t2)) (hr : w.heap[h + 2]? = some (.cells #[vr] t3)) :
    CallsD Try.prog 26 #[.pointer (some ⟨h, 0, none⟩), .pointer (some ⟨h + 1, 0, none⟩), .pointer (some ⟨h + 2, 0, none⟩)] (.panicking [{ v := .iface 57 (.agg #[.int .i64 k, .int .i64 c]), recovered := false }]) w fun e u' w' =>
      e = .returned (.tuple #[]) ∧ u' = .panicking [{ v := .iface 57 (.agg #[.int .i64 k, .int .i64 c]), recovered := true }] ∧
      w'.cell? ⟨h, 0, none⟩ = some (.slice none 0 0) ∧ w'.cell? ⟨h + 1, 0, none⟩ = some (.int .i64 k) ∧ w'.cell? ⟨h + 2, 0, none⟩ = some (.int .i64 c) ∧ Chg (fun j => h ≤ j ∧ j ≤ h + 2) w w' := by
  have hh := row_lt hr
  refine callsD_of_wpS Try.func26 rfl fun c₀ cs hu => ?_
  apply wpS_seq
  apply wpS_region
  simp [wpOpsS, go_sem, recoverD, hu, Try.ntmps26, Exit.thenS]
  refine wpS_of_wp ?_
  change Code.wp _ _ _ { tmps := #[.pointer (some ⟨h, 0, none⟩), .pointer (some ⟨h + 1, 0, none⟩), .pointer (some ⟨h + 2, 0, none⟩), undef, undef, undef, .iface 57 (.agg #[.int .i64 k, .int .i64 c]), undef, undef, undef, undef, undef, undef, undef, undef, undef], defers := [] } w
  have has := assert_fault (.agg #[.int .i64 k, .int .i64 c])
  have n1 : ¬ w.heap.size = h := by omega
  have n2 : ¬ w.heap.size = h + 1 := by omega
  have n3 : ¬ w.heap.size = h + 2 := by omega
  have n4 : ¬ h = w.heap.size := by omega
  have n5 : ¬ h + 1 = w.heap.size := by omega
  have n6 : ¬ h + 2 = w.heap.size := by omega
  have hA := row_new w (.cells #[.int .i64 k, .int .i64 c] 57)
  have hp' := row_alloc hp (.cells #[.int .i64 k, .int .i64 c] 57)
  have hq' := row_alloc hq (.cells #[.int .i64 k, .int .i64 c] 57)
  have hr' := row_alloc hr (.cells #[.int .i64 k, .int .i64 c] 57)
  have hC : Chg (fun j => h ≤ j ∧ j ≤ h + 2) w (w.alloc (.cells #[.int .i64 k, .int .i64 c] 57)) := (Chg.refl _ _).alloc _
  go_wp2
  revert hA hp' hq' hr' hC
  generalize w.alloc (.cells #[.int .i64 k, .int .i64 c] 57) = wa
  intro hA hp' hq' hr' hC
  clear hp hq hr
  have a0 := row_cells hA
  have p0 := row_cells hp'
  have q0 := row_cells hq'
  have r0 := row_cells hr'
  have p1 := row_free hp'
  have q1 := row_free hq'
  have r1 := row_free hr'
  go_region_held3 (fun w' => w'.cell? ⟨w.heap.size, 0, none⟩ = some (.int .i64 k) ∧ w'.cell? ⟨w.heap.size, 1, none⟩ = some (.int .i64 c)) (go_keep) (fail)
  have n7 : ¬ h = h + 1 := by omega
  have n8 : ¬ h = h + 2 := by omega
  have g0 := row_far (row_far (row_set hp' 0 (.slice none 0 0)) (p := ⟨h + 1, 0, none⟩) n7 (.int .i64 k)) (p := ⟨h + 2, 0, none⟩) n8 (.int .i64 c)
  have g1 := row_far (row_set (row_far hq' (p := ⟨h, 0, none⟩) (by simp) (.slice none 0 0)) 0 (.int .i64 k)) (p := ⟨h + 2, 0, none⟩) (by simp) (.int .i64 c)
  have g2 := row_set (row_far (row_far hr' (p := ⟨h, 0, none⟩) (by simp) (.slice none 0 0)) (p := ⟨h + 1, 0, none⟩) (by simp) (.int .i64 k)) 0 (.int .i64 c)
  have hC3 := (((hC.setCell (p := ⟨h, 0, none⟩) (fun _ => by simp) (.slice none 0 0)).setCell (p := ⟨h + 1, 0, none⟩) (fun _ => by simp) (.int .i64 k)).setCell (p := ⟨h + 2, 0, none⟩) (fun _ => by simp) (.int .i64 c)).drew
  have f0 : (((wa.setCell ⟨h, 0, none⟩ (.slice none 0 0)).setCell ⟨h + 1, 0, none⟩ (.int .i64 k)).setCell ⟨h + 2, 0, none⟩ (.int .i64 c)).drew.cell? ⟨h, 0, none⟩ = some (.slice none 0 0) := row_cells g0 0
  have f1 : (((wa.setCell ⟨h, 0, none⟩ (.slice none 0 0)).setCell ⟨h + 1, 0, none⟩ (.int .i64 k)).setCell ⟨h + 2, 0, none⟩ (.int .i64 c)).drew.cell? ⟨h + 1, 0, none⟩ = some (.int .i64 k) := row_cells g1 0
  have f2 : (((wa.setCell ⟨h, 0, none⟩ (.slice none 0 0)).setCell ⟨h + 1, 0, none⟩ (.int .i64 k)).setCell ⟨h + 2, 0, none⟩ (.int .i64 c)).drew.cell? ⟨h + 2, 0, none⟩ = some (.int .i64 c) := row_cells g2 0
  clear p0 q0 r0 p1 q1 r1 a0 hA hp' hq' hr' hC
  revert f0 f1 f2 hC3
  generalize (((wa.setCell ⟨h, 0, none⟩ (.slice none 0 0)).setCell ⟨h + 1, 0, none⟩ (.int .i64 k)).setCell ⟨h + 2, 0, none⟩ (.int .i64 c)).drew = wb
  intro f0 f1 f2 hC3
  go_wp2
  cases c₀
  simp only at hu
  subst hu
  simp [bodyPostS, results, Try.results26, f0, f1, f2, hC3]
end Go.Proofs.Ytdfnkmiabmjolaa
