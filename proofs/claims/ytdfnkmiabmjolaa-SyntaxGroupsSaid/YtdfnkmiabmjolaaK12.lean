/- parse and Parse. Plain laws of package syntax. A text with a newline and more behind it is scanned as it was. Plain laws of package syntax. Blanks, signs and plain words of a text with more behind it. Plain laws of package syntax. Two runs of the parser's parts: redirections. Plain laws of package syntax. Two runs: simple commands, loops. Plain laws of package syntax. Two runs: cases, branches. Plain laws of package syntax. Two runs: compound commands, functions, pipes, lists. Plain laws of package syntax. Two runs of the parser; that a fault has a number. Plain laws of package syntax. Where lists end no command begins; scripts with a newline between. Parse; the knot: what every method of the parser comes to, by the model's fuel. Walks of the law's comparisons: words. Walks of the law's comparisons: lists, given cmds. -/
import Derived.Test.YtdfnkmiabmjolaaK11
namespace Go.Proofs.Ytdfnkmiabmjolaa
open Go.RowKit
set_option linter.unusedVariables false
set_option linter.unusedSimpArgs false

theorem pcatch_idle (p q r : Addr) (w : World) :
    CallsD Try.prog 42 #[.pointer (some p), .pointer (some q), .pointer (some r)] .returning w fun e u' w' => e = .returned (.tuple #[]) ∧ u' = .returning ∧ w' = w := by
  refine callsD_of_wpS Try.func42 rfl fun c₀ cs hu => ?_
  apply wpS_seq
  apply wpS_region
  simp [wpOpsS, go_sem, recoverD, hu, Try.ntmps42, Exit.thenS]
  refine wpS_of_wp ?_
  go_wp2
  cases c₀
  simp_all [bodyPostS, results, Try.results42]

theorem passert_fault (v : Value) (w : World) : (Instr.typeAssert (.iface 73 v) 20 73 true).run Try.prog w = .ok (.tuple #[v, .bool true]) w := by kernel_rfl

set_option pp.deepTerms true in
set_option pp.maxSteps 200000 in
set_option maxRecDepth 100000 in
set_option maxHeartbeats 2000000 in
theorem pcatch_fault (h : Nat) (vp vq vr : Value) (k c : Int) (w : World) (t1 t2 t3 : TypeId) (hp : w.heap[h]? = some (.cells #[vp] t1)) (hq : w.heap[h + 1]? = some (.cells #[vq] t2)) (hr : w.heap[h + 2]? = some (.cells #[vr] t3)) :
    CallsD Try.prog 42 #[.pointer (some ⟨h, 0, none⟩), .pointer (some ⟨h + 1, 0, none⟩), .pointer (some ⟨h + 2, 0, none⟩)] (.panicking [{ v := .iface 73 (.agg #[.int .i64 k, .int .i64 c]), recovered := false }]) w fun e u' w' =>
      e = .returned (.tuple #[]) ∧ u' = .panicking [{ v := .iface 73 (.agg #[.int .i64 k, .int .i64 c]), recovered := true }] ∧
      w'.cell? ⟨h, 0, none⟩ = some (.slice none 0 0) ∧ w'.cell? ⟨h + 1, 0, none⟩ = some (.int .i64 k) ∧ w'.cell? ⟨h + 2, 0, none⟩ = some (.int .i64 c) ∧ Chg (fun j => h ≤ j ∧ j ≤ h + 2) w w' := by
  have hh := row_lt hr
  refine callsD_of_wpS Try.func42 rfl fun c₀ cs hu => ?_
  apply wpS_seq
  apply wpS_region
  simp [wpOpsS, go_sem, recoverD, hu, Try.ntmps42, Exit.thenS]
  refine wpS_of_wp ?_
  change Code.wp _ _ _ { tmps := #[.pointer (some ⟨h, 0, none⟩), .pointer (some ⟨h + 1, 0, none⟩), .pointer (some ⟨h + 2, 0, none⟩), undef, undef, undef, .iface 73 (.agg #[.int .i64 k, .int .i64 c]), undef, undef, undef, undef, undef, undef, undef, undef, undef], defers := [] } w
  have has := passert_fault (.agg #[.int .i64 k, .int .i64 c])
  have n1 : ¬ w.heap.size = h := by omega
  have n2 : ¬ w.heap.size = h + 1 := by omega
  have n3 : ¬ w.heap.size = h + 2 := by omega
  have n4 : ¬ h = w.heap.size := by omega
  have n5 : ¬ h + 1 = w.heap.size := by omega
  have n6 : ¬ h + 2 = w.heap.size := by omega
  have hA := row_new w (.cells #[.int .i64 k, .int .i64 c] 73)
  have hp' := row_alloc hp (.cells #[.int .i64 k, .int .i64 c] 73)
  have hq' := row_alloc hq (.cells #[.int .i64 k, .int .i64 c] 73)
  have hr' := row_alloc hr (.cells #[.int .i64 k, .int .i64 c] 73)
  have hC : Chg (fun j => h ≤ j ∧ j ≤ h + 2) w (w.alloc (.cells #[.int .i64 k, .int .i64 c] 73)) := (Chg.refl _ _).alloc _
  go_wp2
  revert hA hp' hq' hr' hC
  generalize w.alloc (.cells #[.int .i64 k, .int .i64 c] 73) = wa
  intro hA hp' hq' hr' hC
  clear hp hq hr
  have a0 := row_cells hA
  have p0 := row_cells hp'
  have q0 := row_cells hq'
  have r0 := row_cells hr'
  have p1 := row_free hp'
  have q1 := row_free hq'
  have r1 := row_free hr'
  go_region_held3 (fun w' => w'.cell? ⟨w.heap.size, 0, none⟩ = some (.int .i64 k) ∧ w'.cell? ⟨w.heap.size, 1, none⟩ = some (.int .i64 c)) (go_keep) (fail)
  have n7 : ¬ h = h + 1 := by omega
  have n8 : ¬ h = h + 2 := by omega
  have g0 := row_far (row_far (row_set hp' 0 (.slice none 0 0)) (p := ⟨h + 1, 0, none⟩) n7 (.int .i64 k)) (p := ⟨h + 2, 0, none⟩) n8 (.int .i64 c)
  have g1 := row_far (row_set (row_far hq' (p := ⟨h, 0, none⟩) (by simp) (.slice none 0 0)) 0 (.int .i64 k)) (p := ⟨h + 2, 0, none⟩) (by simp) (.int .i64 c)
  have g2 := row_set (row_far (row_far hr' (p := ⟨h, 0, none⟩) (by simp) (.slice none 0 0)) (p := ⟨h + 1, 0, none⟩) (by simp) (.int .i64 k)) 0 (.int .i64 c)
  have hC3 := (((hC.setCell (p := ⟨h, 0, none⟩) (fun _ => by simp) (.slice none 0 0)).setCell (p := ⟨h + 1, 0, none⟩) (fun _ => by simp) (.int .i64 k)).setCell (p := ⟨h + 2, 0, none⟩) (fun _ => by simp) (.int .i64 c)).drew
  have f0 : (((wa.setCell ⟨h, 0, none⟩ (.slice none 0 0)).setCell ⟨h + 1, 0, none⟩ (.int .i64 k)).setCell ⟨h + 2, 0, none⟩ (.int .i64 c)).drew.cell? ⟨h, 0, none⟩ = some (.slice none 0 0) := row_cells g0 0
  have f1 : (((wa.setCell ⟨h, 0, none⟩ (.slice none 0 0)).setCell ⟨h + 1, 0, none⟩ (.int .i64 k)).setCell ⟨h + 2, 0, none⟩ (.int .i64 c)).drew.cell? ⟨h + 1, 0, none⟩ = some (.int .i64 k) := row_cells g1 0
  have f2 : (((wa.setCell ⟨h, 0, none⟩ (.slice none 0 0)).setCell ⟨h + 1, 0, none⟩ (.int .i64 k)).setCell ⟨h + 2, 0, none⟩ (.int .i64 c)).drew.cell? ⟨h + 2, 0, none⟩ = some (.int .i64 c) := row_cells g2 0
  clear p0 q0 r0 p1 q1 r1 a0 hA hp' hq' hr' hC
  revert f0 f1 f2 hC3
  generalize (((wa.setCell ⟨h, 0, none⟩ (.slice none 0 0)).setCell ⟨h + 1, 0, none⟩ (.int .i64 k)).setCell ⟨h + 2, 0, none⟩ (.int .i64 c)).drew = wb
  intro f0 f1 f2 hC3
  go_wp2
  cases c₀
  simp only at hu
  subst hu
  simp [bodyPostS, results, Try.results42, f0, f1, f2, hC3]
abbrev fCatch : Nat := 42

def ParseEnd (w : World) (s : ByteArray) (R : Rs (List Lst)) (e : Ending) (w' : World) : Prop := Chg (fun _ => False) w w' ∧ match R with
  | .ok l _ => ∃ A c, e = .returned (.tuple #[.slice A l.length c, .int .i64 0, .int .i64 0]) ∧ Rep w' (fun k => w.heap.size ≤ k) (.sl 44 2 (Lst.ds l)) [.slice A l.length c]
  | .err left c => e = .returned (.tuple #[.slice none 0 0, .int .i64 (s.size - left : Nat), .int .i64 c]) ∧ left ≤ s.size

set_option pp.deepTerms true in
set_option pp.maxSteps 200000 in
set_option maxRecDepth 100000 in
set_option maxHeartbeats 4000000 in
theorem parse_calls (ls : Bytes → Rs (List Lst)) (d : Nat) (m : Nat) (s : ByteArray) (w : World) (hs : s.size ≤ 8192) (hm : s.size ≤ m) (hls : 1 ≤ s.size → LsSaid ls d m) :
    Calls Try.prog 33 #[.string s, .int .i64 d] w (ParseEnd w s (parseG ls s.data.toList)) := by
  have hmf : ∀ (fn : Fn) (first cap : Array Value) (w : World), (Instr.makeFunc fn first cap).run Try.prog w = .ok (.func fn first cap) w := fun _ _ _ _ => rfl
  generalize hR : parseG ls s.data.toList = R
  rw [parseG] at hR
  have HR := Lib.hid hR.symm; clear hR
  go_enter_defers Try.func33, Try.ntmps33
  go_wp2_with fail
  have c0 := row_new w (.cells #[.slice none 0 0] 37)
  have hA : ParsAt ((((w.alloc (Obj.cells #[Value.slice none 0 0] 37)).alloc (Obj.cells #[Value.int IntKind.i64 0] 3)).alloc (Obj.cells #[Value.int IntKind.i64 0] 25)).alloc (Obj.cells #[Value.string s, Value.int IntKind.i64 0, Value.int IntKind.i64 d] 76)) (w.heap.size + 1 + 1 + 1) s (0 : Nat) d := by
    have := row_new (((w.alloc (Obj.cells #[Value.slice none 0 0] 37)).alloc (Obj.cells #[Value.int IntKind.i64 0] 3)).alloc (Obj.cells #[Value.int IntKind.i64 0] 25)) (Obj.cells #[Value.string s, Value.int IntKind.i64 0, Value.int IntKind.i64 d] 76)
    unfold ParsAt
    simpa using this
  have c1 : ((w.alloc (Obj.cells #[Value.slice none 0 0] 37)).alloc (Obj.cells #[Value.int IntKind.i64 0] 3)).heap[w.heap.size + 1]? = some (Obj.cells #[Value.int IntKind.i64 0] 3) := by
    have := row_new (w.alloc (Obj.cells #[Value.slice none 0 0] 37)) (Obj.cells #[Value.int IntKind.i64 0] 3)
    simpa using this
  have c2 : (((w.alloc (Obj.cells #[Value.slice none 0 0] 37)).alloc (Obj.cells #[Value.int IntKind.i64 0] 3)).alloc (Obj.cells #[Value.int IntKind.i64 0] 25)).heap[w.heap.size + 2]? = some (Obj.cells #[Value.int IntKind.i64 0] 25) := by
    have := row_new ((w.alloc (Obj.cells #[Value.slice none 0 0] 37)).alloc (Obj.cells #[Value.int IntKind.i64 0] 3)) (Obj.cells #[Value.int IntKind.i64 0] 25)
    simpa using this
  have d0 := row_alloc (row_alloc (row_alloc c0 (Obj.cells #[Value.int IntKind.i64 0] 3)) (Obj.cells #[Value.int IntKind.i64 0] 25)) (Obj.cells #[Value.string s, Value.int IntKind.i64 0, Value.int IntKind.i64 d] 76)
  have d1 := row_alloc (row_alloc c1 (Obj.cells #[Value.int IntKind.i64 0] 25)) (Obj.cells #[Value.string s, Value.int IntKind.i64 0, Value.int IntKind.i64 d] 76)
  have d2 := row_alloc c2 (Obj.cells #[Value.string s, Value.int IntKind.i64 0, Value.int IntKind.i64 d] 76)
  have hC := ((((Chg.refl (fun _ => False) w).alloc (Obj.cells #[Value.slice none 0 0] 37)).alloc (Obj.cells #[Value.int IntKind.i64 0] 3)).alloc (Obj.cells #[Value.int IntKind.i64 0] 25)).alloc (Obj.cells #[Value.string s, Value.int IntKind.i64 0, Value.int IntKind.i64 d] 76)
  have hU : ((((w.alloc (Obj.cells #[Value.slice none 0 0] 37)).alloc (Obj.cells #[Value.int IntKind.i64 0] 3)).alloc (Obj.cells #[Value.int IntKind.i64 0] 25)).alloc (Obj.cells #[Value.string s, Value.int IntKind.i64 0, Value.int IntKind.i64 d] 76)).heap.size = w.heap.size + 4 := by simp
  have hP : ParsR ((((w.alloc (Obj.cells #[Value.slice none 0 0] 37)).alloc (Obj.cells #[Value.int IntKind.i64 0] 3)).alloc (Obj.cells #[Value.int IntKind.i64 0] 25)).alloc (Obj.cells #[Value.string s, Value.int IntKind.i64 0, Value.int IntKind.i64 d] 76)) (w.heap.size + 1 + 1 + 1) s s.data.toList d := ⟨0, Nat.zero_le _, by simp, hA⟩
  clear c0 c1 c2 hA
  generalize (((w.alloc (Obj.cells #[Value.slice none 0 0] 37)).alloc (Obj.cells #[Value.int IntKind.i64 0] 3)).alloc (Obj.cells #[Value.int IntKind.i64 0] 25)).alloc (Obj.cells #[Value.string s, Value.int IntKind.i64 0, Value.int IntKind.i64 d] 76) = U at *
  generalize s.data.toList = L at *
  obtain ⟨g, hg⟩ : ∃ g, g = w.heap.size + 1 + 1 + 1 := ⟨_, rfl⟩
  rw [← hg] at hP ⊢
  have hg1 : w.heap.size + 2 < g := by omega
  clear hg
  have hll := lines_le L
  have hLs := hP.len
  refine (lines_calls g s _ d U hP hs).mono ?_
  rintro e w1 ⟨rfl, hP1, hC1⟩
  have r0 := row_chg d0 hC1 (by omega)
  have r1 := row_chg d1 hC1 (by omega)
  have r2 := row_chg d2 hC1 (by omega)
  have hC2 := hC.trans (B' := fun j => j = g) hC1 (fun j h hl => by omega)
  have hU1 := hC1.size
  clear d0 d1 d2 hC hC1 hP hll
  obtain ⟨a, ha, hbe, hl, hA⟩ := hP1.pos
  obtain ⟨h0, h1, h2, f1, f2, _⟩ := hA.cells
  have HB := Lib.hid hbe
  obtain ⟨be, hbe2⟩ : ∃ be, (lines L).isEmpty = be := ⟨_, rfl⟩
  have hbl := lines_le L
  rw [hbe2] at HR
  generalize lines L = b at *
  have hlt : decide ((a : Int) < (s.size : Int)) = !be := by
    rw [← hbe2]
    cases b with
    | nil => simp at hl; simp; omega
    | cons x l => simp at hl; simp; omega
  clear hbe hl hbe2
  have p0 := row_cells r0
  have p1 := row_cells r1
  have p2 := row_cells r2
  have q0 := row_free r0
  have q1 := row_free r1
  have q2 := row_free r2
  have m1 : ¬ w.heap.size + 1 + 1 = w.heap.size := by omega
  have m2 : ¬ w.heap.size = w.heap.size + 1 + 1 := by omega
  have m3 : ¬ g = w.heap.size := by omega
  have m4 : ¬ w.heap.size = g := by omega
  cases be
  case true =>
    simp only [Bool.not_true] at hlt
    have hltN : decide (a < s.size) = false := by simp at hlt; simp; omega
    have HR2 : Hid (R = .ok [] []) := Lib.hid (by rw [HR.out]; rfl)
    clear HR
    have hO : Rep w1 (fun k => w.heap.size + 2 < k) (.sl 44 2 (Lst.ds [])) [.slice none 0 0] := rep_nil _ _ _ _
    have HRZ := HR2
    clear HR2
    go_wp2
    have n7 : ¬ w.heap.size = w.heap.size + 1 := by omega
    have n8 : ¬ w.heap.size + 1 = w.heap.size + 1 + 1 := by omega
    have g0 := row_far (row_far (row_set r0 0 (.slice none 0 0)) (p := ⟨w.heap.size + 1, 0, none⟩) (by simp) (.int .i64 0)) (p := ⟨w.heap.size + 1 + 1, 0, none⟩) m2 (.int .i64 0)
    have g1 := row_far (row_set (row_far r1 (p := ⟨w.heap.size, 0, none⟩) (by simp) (.slice none 0 0)) 0 (.int .i64 0)) (p := ⟨w.heap.size + 1 + 1, 0, none⟩) (by simp) (.int .i64 0)
    have g2 := row_set (row_far (row_far r2 (p := ⟨w.heap.size, 0, none⟩) (by simp) (.slice none 0 0)) (p := ⟨w.heap.size + 1, 0, none⟩) (by simp) (.int .i64 0)) 0 (.int .i64 0)
    have hCW : Chg (fun j => j ≤ w.heap.size + 2) w1 (((w1.setCell ⟨w.heap.size, 0, none⟩ (.slice none 0 0)).setCell ⟨w.heap.size + 1, 0, none⟩ (.int .i64 0)).setCell ⟨w.heap.size + 1 + 1, 0, none⟩ (.int .i64 0)) := (((Chg.refl _ _).setCell (fun _ => by simp) _).setCell (fun _ => by simp) _).setCell (fun _ => by simp) _
    have hCA : Chg (fun j => w.heap.size ≤ j ∧ j ≤ w.heap.size + 2) w1 (((w1.setCell ⟨w.heap.size, 0, none⟩ (.slice none 0 0)).setCell ⟨w.heap.size + 1, 0, none⟩ (.int .i64 0)).setCell ⟨w.heap.size + 1 + 1, 0, none⟩ (.int .i64 0)) := (((Chg.refl _ _).setCell (fun _ => ⟨Nat.le_refl w.heap.size, by show w.heap.size ≤ w.heap.size + 2; omega⟩) _).setCell (fun _ => ⟨by show w.heap.size ≤ w.heap.size + 1; omega, by show w.heap.size + 1 ≤ w.heap.size + 2; omega⟩) _).setCell (fun _ => ⟨by show w.heap.size ≤ w.heap.size + 1 + 1; omega, Nat.le_refl (w.heap.size + 2)⟩) _
    have hC9 := (hC2).trans hCA (fun j h hl => by omega)
    have hO9 := (hO).stay hCW (fun k hk h => by have hk' : w.heap.size + 2 < k := hk; have h' : k ≤ w.heap.size + 2 := h; omega)
    have z0 := row_cells g0 0
    have z1 := row_cells g1 0
    have z2 := row_cells g2 0
    simp only [List.setIfInBounds_toArray, List.set_cons_zero] at z0 z1 z2
    refine leaves_cons (f := fCatch) (args := #[.pointer (some ⟨w.heap.size, 0, none⟩), .pointer (some ⟨w.heap.size + 1, 0, none⟩), .pointer (some ⟨w.heap.size + 2, 0, none⟩)]) (by simp) (by simp [go_sem]) ?_
    refine (pcatch_idle _ _ _ _).mono ?_
    rintro e u' w9 ⟨rfl, rfl, rfl⟩
    simp [Leaves, settle, results, Try.results33, go_sem, z0, z1, z2]
    rw [HRZ.out]
    refine ⟨hC9, none, 0, ?_, ?_⟩
    · first | rfl | rw [HNL.out]
    · have hO10 := hO9.mono (S' := fun k => w.heap.size ≤ k) (fun k hk _ => by have hk' : w.heap.size + 2 < k := hk; omega)
      first | exact hO10 | (rw [HNL.out]; exact hO10)
  case false =>
    simp only [Bool.not_false, decide_eq_true_eq] at hlt
    have hltN : a < s.size := by omega
    have HR2 : Hid (R = (ls b).bind fun l r => if r.isEmpty then .ok l [] else failS r 61) := Lib.hid (by rw [HR.out]; rfl)
    clear HR
    go_wp2_with fail
    refine (hls (by omega) g s b w1 hP1 hs (by omega)).mono ?_
    rintro e w2 hp
    rcases ppost_cases hp with ⟨l, r, v, hX, rfl, ⟨A5, c5, rfl, hO⟩, hP2, hC3⟩ | ⟨le, ce, ke, hX, hke, hle', rfl, hC3⟩
    · obtain ⟨a2, ha2, hbe2, hl2, hA2⟩ := hP2.pos
      obtain ⟨k0, k1, k2, _, _, _⟩ := hA2.cells
      have HB2 := Lib.hid hbe2
      have u0 := row_chg r0 hC3 (by omega)
      have u1 := row_chg r1 hC3 (by omega)
      have u2 := row_chg r2 hC3 (by omega)
      have hC4 := hC2.trans (B' := fun j => j = g) hC3 (fun j h hl => by omega)
      have hU2 := hC3.size
      have HR3 : Hid (R = if r.isEmpty then .ok l [] else failS r 61) := Lib.hid (by rw [HR2.out, hX]; rfl)
      obtain ⟨re, hre⟩ : ∃ re, r.isEmpty = re := ⟨_, rfl⟩
      rw [hre] at HR3
      have hlt2 : decide (a2 < s.size) = !re := by
        rw [← hre]
        cases r with
        | nil => simp at hl2; simp; omega
        | cons x l => simp at hl2; simp; omega
      have hO' : Rep w2 (fun k => w.heap.size + 2 < k) (.sl 44 2 (Lst.ds l)) [.slice A5 l.length c5] := hO.mono (fun k hk _ => by have hk' : w1.heap.size ≤ k := hk; omega)
      have p0 := row_cells u0
      have p1 := row_cells u1
      have p2 := row_cells u2
      have q0 := row_free u0
      have q1 := row_free u1
      have q2 := row_free u2
      clear HR2 hX hO hC2 hC3 r0 r1 r2 hP1 hA h0 h1 h2 f1 f2 hlt hltN hbe2 hl2 hre
      generalize hnl : l.length = nl at *
      have HNL := Lib.hid hnl; clear hnl
      cases re
      case true =>
        have HRZ : Hid (R = .ok l []) := Lib.hid (by rw [HR3.out]; rfl)
        have hlt2' : decide ((a2 : Int) < (s.size : Int)) = false := by simp at hlt2; simp; omega
        clear HR3
        have hCS := setCell_chg w2 w.heap.size 0 (.slice A5 nl c5)
        have hC5 := hC4.trans (B' := (· = w.heap.size)) hCS (fun j h hl => by omega)
        have hO2 := hO'.stay hCS (fun k hk e => by have hk' : w.heap.size + 2 < k := hk; omega)
        have v0 := row_set u0 0 (.slice A5 nl c5)
        have v1 := row_chg u1 hCS (by omega)
        have v2 := row_chg u2 hCS (by omega)
        have p3 := row_cells v0
        go_wp2
        clear p0 p1 p2 p3 q0 q1 q2 k0 k1 k2
        have n7 : ¬ w.heap.size = w.heap.size + 1 := by omega
        have n8 : ¬ w.heap.size + 1 = w.heap.size + 1 + 1 := by omega
        have g0 := row_far (row_far (row_set v0 0 (.slice A5 nl c5)) (p := ⟨w.heap.size + 1, 0, none⟩) (by simp) (.int .i64 0)) (p := ⟨w.heap.size + 1 + 1, 0, none⟩) m2 (.int .i64 0)
        have g1 := row_far (row_set (row_far v1 (p := ⟨w.heap.size, 0, none⟩) (by simp) (.slice A5 nl c5)) 0 (.int .i64 0)) (p := ⟨w.heap.size + 1 + 1, 0, none⟩) (by simp) (.int .i64 0)
        have g2 := row_set (row_far (row_far v2 (p := ⟨w.heap.size, 0, none⟩) (by simp) (.slice A5 nl c5)) (p := ⟨w.heap.size + 1, 0, none⟩) (by simp) (.int .i64 0)) 0 (.int .i64 0)
        have hCW : Chg (fun j => j ≤ w.heap.size + 2) (w2.setCell ⟨w.heap.size, 0, none⟩ (.slice A5 nl c5)) ((((w2.setCell ⟨w.heap.size, 0, none⟩ (.slice A5 nl c5)).setCell ⟨w.heap.size, 0, none⟩ (.slice A5 nl c5)).setCell ⟨w.heap.size + 1, 0, none⟩ (.int .i64 0)).setCell ⟨w.heap.size + 1 + 1, 0, none⟩ (.int .i64 0)) := (((Chg.refl _ _).setCell (fun _ => by simp) _).setCell (fun _ => by simp) _).setCell (fun _ => by simp) _
        have hCA : Chg (fun j => w.heap.size ≤ j ∧ j ≤ w.heap.size + 2) (w2.setCell ⟨w.heap.size, 0, none⟩ (.slice A5 nl c5)) ((((w2.setCell ⟨w.heap.size, 0, none⟩ (.slice A5 nl c5)).setCell ⟨w.heap.size, 0, none⟩ (.slice A5 nl c5)).setCell ⟨w.heap.size + 1, 0, none⟩ (.int .i64 0)).setCell ⟨w.heap.size + 1 + 1, 0, none⟩ (.int .i64 0)) := (((Chg.refl _ _).setCell (fun _ => ⟨Nat.le_refl w.heap.size, by show w.heap.size ≤ w.heap.size + 2; omega⟩) _).setCell (fun _ => ⟨by show w.heap.size ≤ w.heap.size + 1; omega, by show w.heap.size + 1 ≤ w.heap.size + 2; omega⟩) _).setCell (fun _ => ⟨by show w.heap.size ≤ w.heap.size + 1 + 1; omega, Nat.le_refl (w.heap.size + 2)⟩) _
        have hC9 := (hC5).trans hCA (fun j h hl => by omega)
        have hO9 := (hO2).stay hCW (fun k hk h => by have hk' : w.heap.size + 2 < k := hk; have h' : k ≤ w.heap.size + 2 := h; omega)
        have z0 := row_cells g0 0
        have z1 := row_cells g1 0
        have z2 := row_cells g2 0
        simp only [List.setIfInBounds_toArray, List.set_cons_zero] at z0 z1 z2
        refine leaves_cons (f := fCatch) (args := #[.pointer (some ⟨w.heap.size, 0, none⟩), .pointer (some ⟨w.heap.size + 1, 0, none⟩), .pointer (some ⟨w.heap.size + 2, 0, none⟩)]) (by simp) (by simp [go_sem]) ?_
        refine (pcatch_idle _ _ _ _).mono ?_
        rintro e u' w9 ⟨rfl, rfl, rfl⟩
        simp [Leaves, settle, results, Try.results33, go_sem, z0, z1, z2]
        rw [HRZ.out]
        refine ⟨hC9, A5, c5, ?_, ?_⟩
        · first | rfl | rw [HNL.out]
        · have hO10 := hO9.mono (S' := fun k => w.heap.size ≤ k) (fun k hk _ => by have hk' : w.heap.size + 2 < k := hk; omega)
          first | exact hO10 | (rw [HNL.out]; exact hO10)
      case false =>
        have HR4 : Hid (R = failS r 61) := Lib.hid (by rw [HR3.out]; rfl)
        have hlt2' : (a2 : Int) < (s.size : Int) := by simp at hlt2; omega
        have hlt3 : a2 < s.size := by omega
        clear HR3 hlt2
        have hCS := setCell_chg w2 w.heap.size 0 (.slice A5 nl c5)
        have hA3 := hA2.chg hCS (by omega)
        have hC5 := hC4.trans (B' := (· = w.heap.size)) hCS (fun j h hl => by omega)
        have v0 := row_set u0 0 (.slice A5 nl c5)
        have v1 := row_chg u1 hCS (by omega)
        have v2 := row_chg u2 hCS (by omega)
        go_wp2_with fail
        refine Calls.mono (fail_at (α := List Lst) g s r d _ 61 w _ a2 a2 HB2.out ha2 hA3 (hC5.mono (fun _ h _ => h.elim)) (fun _ _ _ => True)) ?_
        rintro e w4 ⟨⟨ch, rfl⟩, hpost, rfl⟩
        rcases ppost_cases hpost with ⟨_, _, _, _, h, _⟩ | ⟨le, ce, ke, hX, hke, hle', heq, _⟩
        · cases h
        · cases heq
          have HRZ : Hid (R = .err le ce) := Lib.hid (by rw [HR4.out, hX])
          refine leaves_cons (f := fCatch) (args := #[.pointer (some ⟨w.heap.size, 0, none⟩), .pointer (some ⟨w.heap.size + 1, 0, none⟩), .pointer (some ⟨w.heap.size + 2, 0, none⟩)]) (by simp) (by simp [go_sem]) ?_
          refine (pcatch_fault w.heap.size _ _ _ ke ce (w2.setCell ⟨w.heap.size, 0, none⟩ (.slice A5 nl c5)) _ _ _ v0 v1 v2).mono ?_
          rintro e u' w9 ⟨rfl, rfl, z0, z1, z2, hC9⟩
          simp [Leaves, settle, results, Try.results33, go_sem, z0, z1, z2]
          rw [HRZ.out]
          refine ⟨(hC5).trans hC9 (fun j h hl => by have := h.1; omega), ?_, by omega⟩
          rw [hle', show s.size - (s.size - ke) = ke by omega]
    · have u0 := row_chg r0 hC3 (by omega)
      have u1 := row_chg r1 hC3 (by omega)
      have u2 := row_chg r2 hC3 (by omega)
      have HRZ : Hid (R = .err le ce) := Lib.hid (by rw [HR2.out, hX]; rfl)
      have hC4 := hC2.trans hC3 (fun j h hl => by omega)
      refine leaves_cons (f := fCatch) (args := #[.pointer (some ⟨w.heap.size, 0, none⟩), .pointer (some ⟨w.heap.size + 1, 0, none⟩), .pointer (some ⟨w.heap.size + 2, 0, none⟩)]) (by simp) (by simp [go_sem]) ?_
      refine (pcatch_fault w.heap.size _ _ _ ke ce w2 _ _ _ u0 u1 u2).mono ?_
      rintro e u' w9 ⟨rfl, rfl, z0, z1, z2, hC9⟩
      simp [Leaves, settle, results, Try.results33, go_sem, z0, z1, z2]
      rw [HRZ.out]
      refine ⟨(hC4).trans hC9 (fun j h hl => by have := h.1; omega), ?_, by omega⟩
      rw [hle', show s.size - (s.size - ke) = ke by omega]
end Go.Proofs.Ytdfnkmiabmjolaa
namespace Go.Proofs.Ytdfnkmiabmjolaa
set_option linter.unusedVariables false

/-- What may stand behind a text: nothing, or a newline and so on. -/
def Ends (x : Bytes) : Prop := x = [] ∨ ∃ y, x = 10 :: y

theorem ends_takeWhile {x : Bytes} (hx : Ends x) (p : UInt8 → Bool) (hp : p 10 = false) : ∀ r : Bytes, (r ++ x).takeWhile p = r.takeWhile p
  | [] => by rcases hx with rfl | ⟨y, rfl⟩ <;> simp [hp]
  | c :: r => by
    simp only [List.cons_append, List.takeWhile_cons, ends_takeWhile hx p hp r]
theorem ends_named {x : Bytes} (hx : Ends x) (r : Bytes) : named (r ++ x) = named r := by
  cases r with
  | nil => rcases hx with rfl | ⟨y, rfl⟩ <;> rfl
  | cons c r =>
    simp only [List.cons_append, named, ends_takeWhile hx alnum (by decide)]
theorem named_pos_le : ∀ s : Bytes, named s ≤ s.length
  | [] => Nat.le_refl _
  | c :: r => by
    simp only [named]
    split
    · have := (List.takeWhile_sublist alnum (l := r)).length_le
      simp; omega
    · simp
theorem ends_idx {x : Bytes} (c : UInt8) : ∀ (r : Bytes) (k : Nat), idx c r = some k → idx c (r ++ x) = some k
  | [], k, h => by simp [idx] at h
  | d :: r, k, h => by
    simp only [idx, List.cons_append] at *
    split at h
    · rename_i hd; rw [if_pos hd]; exact h
    · rename_i hd
      rw [if_neg hd]
      cases hi : idx c r with
      | none => rw [hi] at h; simp at h
      | some j => rw [hi] at h; rw [ends_idx c r j hi]; exact h
theorem ends_closed {x : Bytes} (q : UInt8) : ∀ (n : Nat) (r : Bytes) (k : Nat), r.length ≤ n → closed q r = some k → closed q (r ++ x) = some k
  | _, [], k, _, h => by simp [closed] at h
  | 0, _ :: _, _, hn, _ => by simp at hn
  | n + 1, c :: r, k, hn, h => by
    simp only [List.length_cons] at hn
    rw [List.cons_append]
    rw [closed.eq_def] at h ⊢
    dsimp only at h ⊢
    split at h
    · rename_i hc; rw [if_pos hc]; exact h
    · rename_i hc
      rw [if_neg hc]
      split at h
      · rename_i hc2
        rw [if_pos hc2]
        cases r with
        | nil => simp at h
        | cons e r =>
          dsimp only [List.cons_append] at h ⊢
          cases hi : closed q r with
          | none => rw [hi] at h; simp at h
          | some j =>
            simp only [List.length_cons] at hn
            rw [hi] at h; rw [ends_closed q n r j (by omega) hi]; exact h
      · rename_i hc2
        rw [if_neg hc2]
        cases hi : closed q r with
        | none => rw [hi] at h; simp at h
        | some j => rw [hi] at h; rw [ends_closed q n r j (by omega) hi]; exact h
theorem drop_app {x : Bytes} (k : Nat) (r : Bytes) (h : k ≤ r.length) : (r ++ x).drop k = r.drop k ++ x := List.drop_append_of_le_length h
theorem take_app {x : Bytes} (k : Nat) (r : Bytes) (h : k ≤ r.length) : (r ++ x).take k = r.take k := List.take_append_of_le_length h
theorem closed_lt2 (q : UInt8) : ∀ (n : Nat) (r : Bytes) (k : Nat), r.length ≤ n → closed q r = some k → k < r.length
  | _, [], k, _, h => by simp [closed] at h
  | 0, _ :: _, _, hn, _ => by simp at hn
  | n + 1, c :: r, k, hn, h => by
    simp only [List.length_cons] at hn
    rw [closed.eq_def] at h
    dsimp only at h
    split at h
    · simp at h; simp; omega
    · split at h
      · cases r with
        | nil => simp at h
        | cons e r =>
          dsimp only at h
          cases hi : closed q r with
          | none => rw [hi] at h; simp at h
          | some j =>
            simp only [List.length_cons] at hn
            have := closed_lt2 q n r j (by omega) hi
            rw [hi] at h; simp at h; simp; omega
      · cases hi : closed q r with
        | none => rw [hi] at h; simp at h
        | some j =>
          have := closed_lt2 q n r j (by omega) hi
          rw [hi] at h; simp at h; simp; omega
theorem ends_insideF {x : Bytes} : ∀ (n n' deep : Nat) (r : Bytes) (k : Nat), n ≤ n' → insideF n deep r = some k → insideF n' deep (r ++ x) = some k ∧ k < r.length
  | 0, _, deep, r, k, _, h => by simp [insideF] at h
  | n + 1, n', deep, [], k, _, h => by simp [insideF] at h
  | n + 1, 0, _, _, _, hn, _ => by omega
  | n + 1, n' + 1, deep, c :: r, k, hn, h => by
    rw [List.cons_append]
    rw [insideF] at h ⊢
    have IH := fun dp r k => ends_insideF n n' dp r k (by omega) (x := x)
    split at h
    · rename_i hc
      rw [if_pos hc]
      cases r with
      | nil => cases n <;> simp [insideF] at h
      | cons e r =>
        simp only [List.drop_succ_cons, List.drop_zero, List.cons_append] at h ⊢
        cases hi : insideF n deep r with
        | none => rw [hi] at h; simp at h
        | some j => obtain ⟨e1, e2⟩ := IH _ _ _ hi; rw [hi] at h; rw [e1]; simp at h; subst h; simp; omega
    · rename_i hc
      rw [if_neg hc]
      split at h
      · rename_i hq
        rw [if_pos hq]
        cases hcl : closed c r with
        | none => rw [hcl] at h; simp at h
        | some j =>
          rw [hcl] at h
          have hlt := closed_lt2 c _ r j (Nat.le_refl _) hcl
          rw [ends_closed c _ r j (Nat.le_refl _) hcl]
          dsimp only at h ⊢
          rw [drop_app _ _ (by omega)]
          cases hi : insideF n deep (r.drop (j + 1)) with
          | none => rw [hi] at h; simp at h
          | some i => obtain ⟨e1, e2⟩ := IH _ _ _ hi; rw [hi] at h; rw [e1]; simp at h e2; subst h; simp; omega
      · rename_i hq
        rw [if_neg hq]
        split at h
        · rename_i h4
          rw [if_pos h4]
          cases hi : insideF n (deep + 1) r with
          | none => rw [hi] at h; simp at h
          | some i => obtain ⟨e1, e2⟩ := IH _ _ _ hi; rw [hi] at h; rw [e1]; simp at h; subst h; simp; omega
        · rename_i h4
          rw [if_neg h4]
          split at h
          · rename_i h5
            rw [if_pos h5]
            split at h
            · rename_i h6; rw [if_pos h6]; simp at h; subst h; simp
            · rename_i h6
              rw [if_neg h6]
              cases hi : insideF n (deep - 1) r with
              | none => rw [hi] at h; simp at h
              | some i => obtain ⟨e1, e2⟩ := IH _ _ _ hi; rw [hi] at h; rw [e1]; simp at h; subst h; simp; omega
          · rename_i h5
            rw [if_neg h5]
            cases hi : insideF n deep r with
            | none => rw [hi] at h; simp at h
            | some i => obtain ⟨e1, e2⟩ := IH _ _ _ hi; rw [hi] at h; rw [e1]; simp at h; subst h; simp; omega
theorem ends_inside {x : Bytes} (r : Bytes) (k : Nat) (h : inside r = some k) : inside (r ++ x) = some k ∧ k < r.length :=
  ends_insideF _ _ 0 r k (by simp) h
theorem ends_arithF {x : Bytes} : ∀ (n : Nat) (F F' dp : Nat) (acc r t r' : Bytes), r.length ≤ n → arithF F dp acc r = .ok t r' → arithF F' dp acc (r ++ x) = .ok t (r' ++ x)
  | _, F, F', dp, acc, [], t, r', _, h => by simp [arithF] at h
  | 0, _, _, _, _, _ :: _, _, _, hn, _ => by simp at hn
  | n + 1, F, F', dp, acc, c :: r, t, r', hn, h => by
    simp only [List.length_cons] at hn
    rw [List.cons_append]
    rw [arithF.eq_def] at h ⊢
    dsimp only at h ⊢
    split at h
    · simp at h
    · rename_i h1
      rw [if_neg h1]
      split at h
      · rename_i h2; rw [if_pos h2]; exact ends_arithF n _ _ _ _ _ _ _ (by omega) h
      · rename_i h2
        rw [if_neg h2]
        split at h
        · rename_i h3; rw [if_pos h3]; exact ends_arithF n _ _ _ _ _ _ _ (by omega) h
        · rename_i h3
          rw [if_neg h3]
          split at h
          · rename_i h4
            rw [if_pos h4]
            split at h
            · simp only [Rs.ok.injEq] at h; obtain ⟨rfl, rfl⟩ := h; rfl
            · simp at h
          · rename_i h4; rw [if_neg h4]; exact ends_arithF n _ _ _ _ _ _ _ (by omega) h
theorem ends_escape {x : Bytes} (l l' : List Part) (r r' : Bytes) (h : escape l r = .ok l' r') : escape l (r ++ x) = .ok l' (r' ++ x) := by
  unfold escape at h
  split at h
  · simp only [Rs.ok.injEq] at h
    obtain ⟨rfl, rfl⟩ := h
    rfl
  · simp at h
theorem isPrefixOf_app {x : Bytes} (hx : Ends x) : ∀ (o s : Bytes), (o.contains 10) = false → o.isPrefixOf (s ++ x) = o.isPrefixOf s
  | [], s, _ => by simp
  | a :: o, [], h => by
    rcases hx with rfl | ⟨y, rfl⟩
    · simp
    · simp only [List.contains_cons, Bool.or_eq_false_iff] at h
      simp only [List.nil_append, List.isPrefixOf, Bool.and_eq_false_iff]
      left
      rw [← h.1, Bool.eq_iff_iff]; simp; exact eq_comm
  | a :: o, b :: s, h => by
    simp only [List.contains_cons, Bool.or_eq_false_iff] at h
    simp only [List.cons_append, List.isPrefixOf, isPrefixOf_app hx o s h.2]
theorem ends_opL {x : Bytes} (hx : Ends x) : ∀ (os : List Bytes) (s : Bytes), os.all (fun o => !o.contains 10) = true → opL os (s ++ x) = opL os s
  | [], s, _ => rfl
  | o :: os, s, h => by
    simp only [List.all_cons, Bool.and_eq_true, Bool.not_eq_true'] at h
    simp only [opL, isPrefixOf_app hx o s h.1, ends_opL hx os s h.2]
theorem ends_parameter {x : Bytes} (hx : Ends x) (r : Bytes) : parameter (r ++ x) = parameter r := by
  have hn := ends_named hx r
  cases r with
  | nil => rcases hx with rfl | ⟨y, rfl⟩ <;> rfl
  | cons c r =>
    rw [List.cons_append] at hn ⊢
    simp only [parameter, hn]
    rw [← List.cons_append, ends_takeWhile hx digit (by decide)]

theorem opL_pre : ∀ (os : List Bytes) (s : Bytes), (opL os s).length ≤ s.length
  | [], s => by simp [opL]
  | o :: os, s => by
    simp only [opL]
    split
    · rename_i h
      exact (List.isPrefixOf_iff_prefix.1 h).length_le
    · exact opL_pre os s
theorem parameter_le2 (s : Bytes) : parameter s ≤ s.length := by
  cases s with
  | nil => simp [parameter]
  | cons c r =>
    have := named_pos_le (c :: r)
    simp only [parameter]
    split
    · exact this
    · split
      · simp
      · exact (List.takeWhile_sublist digit (l := c :: r)).length_le
theorem rs_len_escape (l l' : List Part) (r r' : Bytes) (h : escape l r = .ok l' r') : r'.length ≤ r.length := by
  unfold escape at h
  split at h
  · simp only [Rs.ok.injEq] at h
    obtain ⟨_, rfl⟩ := h
    simp; omega
  · simp at h

theorem scan_lenL (n : Nat) : (∀ deep F l r l' r', doubleF n deep F l r = .ok l' r' → r'.length + 1 ≤ r.length) ∧ (∀ deep q r p r', dollarF n deep q r = .ok p r' → r'.length ≤ r.length) :=
  ⟨fun deep F l r l' r' h => ((scan_len n).double deep F l r l' r' h).2, fun deep q r p r' h => ((scan_len n).dollar deep q r p r' h).2⟩
structure ScanExt (x : Bytes) (n : Nat) : Prop where
  word : ∀ n' deep q l r l' r', n ≤ n' → wordF n deep false q l r = .ok l' r' → wordF n' deep false q l (r ++ x) = .ok l' (r' ++ x)
  wordb : ∀ n' deep q l r l' r', n ≤ n' → r' ≠ [] → wordF n deep true q l r = .ok l' r' → wordF n' deep true q l (r ++ x) = .ok l' (r' ++ x)
  double : ∀ n' deep F F' l r l' r', n ≤ n' → (∀ k, k ≤ r.length → (k + 1 = F ↔ k + x.length + 1 = F')) → doubleF n deep F l r = .ok l' r' → doubleF n' deep F' l (r ++ x) = .ok l' (r' ++ x)
  dollar : ∀ n' deep q r p r', n ≤ n' → dollarF n deep q r = .ok p r' → dollarF n' deep q (r ++ x) = .ok p (r' ++ x)
  param : ∀ n' deep q r p r', n ≤ n' → paramF n deep q r = .ok p r' → paramF n' deep q (r ++ x) = .ok p (r' ++ x)

theorem finish_ext {x : Bytes} (F F' : Nat) (q : Bool) (t o : Bytes) (l : List Part) (r : Bytes) (p : Part) (r' : Bytes) (h : finish F q t o (.ok l r) = .ok p r') : r ≠ [] ∧ finish F' q t o (.ok l (r ++ x)) = .ok p (r' ++ x) := by
  rw [finish.eq_def] at h ⊢
  dsimp only at h ⊢
  cases r with
  | nil => simp at h
  | cons c r =>
    dsimp only [List.cons_append] at h ⊢
    split at h
    · rename_i hc
      rw [if_pos hc]
      simp only [Rs.ok.injEq] at h
      obtain ⟨rfl, rfl⟩ := h
      exact ⟨by simp, rfl⟩
    · simp at h

theorem scan_ext {x : Bytes} (hx : Ends x) : ∀ n, ScanExt x n
  | 0 => ⟨by intros; rename_i h; simp [wordF] at h, by intros; rename_i h; simp [wordF] at h, by intros; rename_i h; simp [doubleF] at h, by intros; rename_i h; simp [dollarF] at h, by intros; rename_i h; simp [paramF] at h⟩
  | n + 1 => by
    obtain ⟨ihw, ihb, ihd, ihs, ihp⟩ := scan_ext hx n
    have hD : ∀ (r : Bytes), ∀ k, k ≤ r.length → (k + 1 = r.length + 1 ↔ k + x.length + 1 = (r ++ x).length + 1) := by
      intro r k hk; simp; try omega
    obtain ⟨ld, ls⟩ := scan_lenL n
    have hW : ∀ (br : Bool) n' deep q l r l' r', (∀ n' deep q l r l' r', n ≤ n' → (br = true → r' ≠ []) → wordF n deep br q l r = .ok l' r' → wordF n' deep br q l (r ++ x) = .ok l' (r' ++ x)) → n + 1 ≤ n' → (br = true → r' ≠ []) → wordF (n + 1) deep br q l r = .ok l' r' → wordF n' deep br q l (r ++ x) = .ok l' (r' ++ x) := by
      intro br n' deep q l r l' r' IH hn hbr h
      obtain ⟨m, rfl⟩ : ∃ m, n' = m + 1 := ⟨n' - 1, by omega⟩
      have hm : n ≤ m := by omega
      cases r with
      | nil =>
        simp only [wordF, Rs.ok.injEq] at h
        obtain ⟨rfl, rfl⟩ := h
        cases br with
        | true => exact absurd rfl (hbr rfl)
        | false =>
          rcases hx with rfl | ⟨y, rfl⟩
          · simp [wordF]
          · simp only [List.nil_append]
            rw [wordF, if_pos (by decide)]
      | cons c r =>
        rw [List.cons_append]
        rw [wordF] at h ⊢
        split at h
        · rename_i hc
          rw [if_pos hc]
          simp only [Rs.ok.injEq] at h; obtain ⟨rfl, rfl⟩ := h; rfl
        · rename_i hc
          rw [if_neg hc]
          split at h
          · rename_i h1
            rw [if_pos h1]
            split at h
            · rename_i l1 r1 he
              rw [← List.cons_append, ends_escape _ _ _ _ he]
              exact IH _ _ _ _ _ _ _ hm hbr h
            · simp at h
          · rename_i h1
            rw [if_neg h1]
            split at h
            · rename_i h2
              rw [if_pos h2]
              split at h
              · simp at h
              · rename_i k hk
                have hlt : k < r.length := by
                  clear h
                  induction r generalizing k with
                  | nil => simp [idx] at hk
                  | cons a r ih =>
                    simp only [idx] at hk
                    split at hk
                    · simp at hk; simp; omega
                    · cases hi : idx 39 r with
                      | none => rw [hi] at hk; simp at hk
                      | some j => rw [hi] at hk; simp at hk; have := ih j hi; simp; omega
                rw [ends_idx 39 r k hk]
                dsimp only
                rw [take_app _ _ (by omega), drop_app _ _ (by omega)]
                exact IH _ _ _ _ _ _ _ hm hbr h
            · rename_i h2
              rw [if_neg h2]
              split at h
              · rename_i h3
                rw [if_pos h3]
                split at h
                · rename_i l1 r1 he
                  rw [ihd m deep (r.length + 1) ((r ++ x).length + 1) l r l1 r1 hm (hD r) he]
                  exact IH _ _ _ _ _ _ _ hm hbr h
                · simp at h
              · rename_i h3
                rw [if_neg h3]
                split at h
                · simp at h
                · rename_i h4
                  rw [if_neg h4]
                  split at h
                  · rename_i h5
                    rw [if_pos h5]
                    split at h
                    · rename_i p1 r1 he
                      rw [ihs _ _ _ _ _ _ hm he]
                      exact IH _ _ _ _ _ _ _ hm hbr h
                    · simp at h
                  · rename_i h5
                    rw [if_neg h5]
                    exact IH _ _ _ _ _ _ _ hm hbr h
    refine ⟨?_, ?_, ?_, ?_, ?_⟩
    · intro n' deep q l r l' r' hn h
      exact hW false n' deep q l r l' r' (fun n' deep q l r l' r' hn _ h => ihw n' deep q l r l' r' hn h) hn (by simp) h
    · intro n' deep q l r l' r' hn hr h
      exact hW true n' deep q l r l' r' (fun n' deep q l r l' r' hn hr h => ihb n' deep q l r l' r' hn (hr rfl) h) hn (fun _ => hr) h
    · intro n' deep F F' l r l' r' hn hF h
      obtain ⟨m, rfl⟩ : ∃ m, n' = m + 1 := ⟨n' - 1, by omega⟩
      have hm : n ≤ m := by omega
      cases r with
      | nil => simp [doubleF] at h
      | cons c r =>
        rw [List.cons_append]
        rw [doubleF] at h ⊢
        have hF2 : ∀ k, k ≤ r.length → (k + 1 = F ↔ k + x.length + 1 = F') := fun k hk => hF k (by simp; omega)
        split at h
        · rename_i hc
          rw [if_pos hc]
          simp only [Rs.ok.injEq] at h; obtain ⟨rfl, rfl⟩ := h
          have := hF (r.length + 1) (by simp)
          by_cases h1 : r.length + 2 = F
          · rw [if_pos (by simp only [List.length_append, beq_iff_eq]; omega), if_pos (by simpa using h1)]
          · rw [if_neg (by simp only [List.length_append, beq_iff_eq]; omega), if_neg (by simpa using h1)]
        · rename_i hc
          rw [if_neg hc]
          split at h
          · simp at h
          · rename_i h1
            rw [if_neg h1]
            split at h
            · rename_i h2
              rw [if_pos h2]
              split at h
              · rename_i p1 r1 he
                rw [ihs _ _ _ _ _ _ hm he]
                have hl := ls _ _ _ _ _ he
                exact ihd _ _ _ _ _ _ _ _ hm (fun k hk => hF2 k (by omega)) h
              · simp at h
            · rename_i h2
              rw [if_neg h2]
              split at h
              · rename_i h3
                have h3' : (c == 92 && dblEsc (r ++ x)) = true := by
                  cases r with
                  | nil => simp [dblEsc] at h3
                  | cons e r => exact h3
                rw [if_pos h3']
                split at h
                · rename_i l1 r1 he
                  rw [← List.cons_append, ends_escape _ _ _ _ he]
                  have := rs_len_escape _ _ _ _ he
                  exact ihd _ _ _ _ _ _ _ _ hm (fun k hk => hF k (by omega)) h
                · simp at h
              · rename_i h3
                cases r with
                | nil => cases n <;> simp [doubleF] at h
                | cons e r =>
                  have h3' : ¬ (c == 92 && dblEsc (e :: r ++ x)) = true := h3
                  rw [if_neg h3']
                  exact ihd _ _ _ _ _ _ _ _ hm hF2 h
    · intro n' deep q r p r' hn h
      obtain ⟨m, rfl⟩ : ∃ m, n' = m + 1 := ⟨n' - 1, by omega⟩
      have hm : n ≤ m := by omega
      have hnm := ends_named hx r
      have hnl := named_pos_le r
      rw [dollarF, dollarG.eq_def] at h ⊢
      rw [hnm]
      split at h
      · simp at h
      · rename_i h1
        rw [if_neg h1]
        split at h
        · rename_i h2
          rw [if_pos h2]
          simp only [Rs.ok.injEq] at h
          obtain ⟨rfl, rfl⟩ := h
          rw [take_app _ _ hnl, drop_app _ _ hnl]
        · rename_i h2
          rw [if_neg h2]
          cases r with
          | nil =>
            simp only [Rs.ok.injEq] at h
            obtain ⟨rfl, rfl⟩ := h
            rcases hx with rfl | ⟨y, rfl⟩
            · rfl
            · rfl
          | cons c r2 =>
            dsimp only [List.cons_append] at h ⊢
            split at h
            · rename_i h3
              rw [if_pos h3]
              simp only [Rs.ok.injEq] at h
              obtain ⟨rfl, rfl⟩ := h
              rfl
            · rename_i h3
              rw [if_neg h3]
              split at h
              · rename_i h4
                rw [if_pos h4]
                exact ihp _ _ _ _ _ _ hm h
              · rename_i h4
                rw [if_neg h4]
                split at h
                · rename_i h5
                  rw [if_pos h5]
                  split at h
                  · rename_i h6
                    have h6' : ((r2 ++ x).head? == some 40) = true := by
                      cases r2 with
                      | nil => simp at h6
                      | cons e r => exact h6
                    rw [if_pos h6']
                    cases r2 with
                    | nil => simp at h6
                    | cons e r2 =>
                      simp only [List.drop_succ_cons, List.drop_zero, List.cons_append] at h ⊢
                      split at h
                      · rename_i t r1 he
                        rw [ends_arithF _ _ ((e :: (r2 ++ x)).length + 2) _ _ _ _ _ (Nat.le_refl _) he]
                        simp only [Rs.ok.injEq] at h
                        obtain ⟨rfl, rfl⟩ := h
                        rfl
                      · simp at h
                  · rename_i h6
                    split at h
                    · simp at h
                    · rename_i k hk
                      obtain ⟨e1, e2⟩ := ends_inside (x := x) r2 k hk
                      have h6' : ¬ ((r2 ++ x).head? == some 40) = true := by
                        cases r2 with
                        | nil => simp at e2
                        | cons e r => exact h6
                      rw [if_neg h6', e1]
                      dsimp only
                      rw [take_app _ _ (by omega), drop_app _ _ (by omega)]
                      simp only [Rs.ok.injEq] at h
                      obtain ⟨rfl, rfl⟩ := h
                      rfl
                · rename_i h5
                  rw [if_neg h5]
                  simp only [Rs.ok.injEq] at h
                  obtain ⟨rfl, rfl⟩ := h
                  rfl
    · intro n' deep q r p r' hn h
      obtain ⟨m, rfl⟩ : ∃ m, n' = m + 1 := ⟨n' - 1, by omega⟩
      have hm : n ≤ m := by omega
      rw [paramF] at h ⊢
      split at h
      · simp at h
      · rename_i hdp
        rw [if_neg hdp]
        have key : ∀ (len : Bool) (r1 : Bytes) (F F' : Nat), paramG (wordF n (deep + 1) true q []) F len q r1 = .ok p r' → r1 ≠ [] ∧ paramG (wordF m (deep + 1) true q []) F' len q (r1 ++ x) = .ok p (r' ++ x) ∧ parameter r1 < r1.length ∧ 0 < parameter r1 := by
          intro len r1 F F' h
          have hpl := parameter_le2 r1
          have hp := ends_parameter hx r1
          rw [paramG] at h ⊢
          rw [hp]
          have hr1 : r1 ≠ [] := by
            rintro rfl
            simp [parameter] at h
          split at h
          · simp at h
          · rename_i hb
            have hpos : 0 < parameter r1 := by
              simp only [Bool.or_eq_true, not_or, beq_iff_eq] at hb; omega
            rw [if_neg hb, take_app _ _ hpl, drop_app _ _ hpl]
            have hop : opM (r1.drop (parameter r1) ++ x) = opM (r1.drop (parameter r1)) := ends_opL hx _ _ (by decide)
            rw [hop]
            have hol := opL_pre ops (r1.drop (parameter r1))
            cases hl : (len || opM (r1.drop (parameter r1)) == []) with
            | true =>
              rw [hl] at h
              simp only [if_true] at h ⊢
              obtain ⟨e1, e2⟩ := finish_ext (x := x) _ F' _ _ _ _ _ _ _ h
              refine ⟨hr1, e2, ?_⟩
              have : (r1.drop (parameter r1)).length ≠ 0 := fun e => e1 (List.eq_nil_of_length_eq_zero e)
              exact ⟨by simp at this; omega, hpos⟩
            | false =>
              rw [hl] at h
              simp only [Bool.false_eq_true, if_false] at h ⊢
              have hol' : (opM (r1.drop (parameter r1))).length ≤ (r1.drop (parameter r1)).length := hol
              have hne : opM (r1.drop (parameter r1)) ≠ [] := by
                intro e; rw [e] at hl; simp at hl
              rw [drop_app _ _ hol']
              generalize hw : wordF n (deep + 1) true q [] ((r1.drop (parameter r1)).drop (opM (r1.drop (parameter r1))).length) = W at h
              cases W with
              | err a1 e1 => simp [finish] at h
              | ok l r3 =>
                obtain ⟨e1, e2⟩ := finish_ext (x := x) _ F' _ _ _ _ _ _ _ h
                rw [ihb _ _ _ _ _ _ _ hm e1 hw]
                refine ⟨hr1, e2, ?_⟩
                have : (opM (r1.drop (parameter r1))).length ≠ 0 := fun e => hne (List.eq_nil_of_length_eq_zero e)
                exact ⟨by simp at hol'; omega, hpos⟩
        cases hlb : lenB r with
        | true =>
          rw [hlb] at h
          simp only [if_true] at h
          have hlb' : lenB (r ++ x) = true := by
            unfold lenB at hlb
            split at hlb
            · exact hlb
            · simp at hlb
          rw [hlb']
          simp only [if_true]
          have hr : 1 ≤ r.length := by
            cases r with
            | nil => simp [lenB] at hlb
            | cons e r => simp
          rw [drop_app _ _ hr]
          exact (key _ _ _ _ h).2.1
        | false =>
          rw [hlb] at h
          simp only [Bool.false_eq_true, if_false] at h
          obtain ⟨e1, e2, e3, e4⟩ := key _ _ _ ((r ++ x).length + 2) h
          have hlb' : lenB (r ++ x) = false := by
            match r, e1, e3, e4, hlb with
            | [c], _, e3, e4, _ =>
              simp at e3; omega
            | c :: d :: r, _, _, _, hlb =>
              simp only [List.cons_append]
              unfold lenB at hlb ⊢
              split at hlb
              · rename_i heq
                simp only [List.cons.injEq] at heq
                obtain ⟨rfl, rfl, _⟩ := heq
                exact hlb
              · rename_i heq
                split
                · rename_i heq2
                  simp only [List.cons.injEq] at heq2
                  obtain ⟨rfl, rfl, _⟩ := heq2
                  exact absurd rfl (heq _ _)
                · rfl
          rw [hlb']
          exact e2
theorem scan_app {x : Bytes} (hx : Ends x) (r r' : Bytes) (l : List Part) (h : scan r = .ok l r') : scan (r ++ x) = .ok l (r' ++ x) :=
  (scan_ext hx _).word _ _ _ _ _ _ _ (by unfold fuel; simp; omega) h
end Go.Proofs.Ytdfnkmiabmjolaa
namespace Go.Proofs.Ytdfnkmiabmjolaa
set_option linter.unusedVariables false
set_option linter.unusedSimpArgs false

theorem bind_ok {α β : Type} {X : Rs α} {f : α → Bytes → Rs β} {v : β} {r' : Bytes} : X.bind f = .ok v r' ↔ ∃ a r1, X = .ok a r1 ∧ f a r1 = .ok v r' := by
  cases X with
  | ok a r1 =>
    simp only [Rs.bind, Rs.ok.injEq]
    exact ⟨fun h => ⟨a, r1, ⟨rfl, rfl⟩, h⟩, fun ⟨_, _, ⟨e1, e2⟩, h⟩ => by subst e1 e2; exact h⟩
  | err l c => simp [Rs.bind]

theorem blanks_nl (y : Bytes) : blanks (10 :: y) = 10 :: y := blanks_stop 10 y rfl rfl rfl
theorem dropWhile_app {x : Bytes} (hx : Ends x) : ∀ r : Bytes, (r ++ x).dropWhile (fun d => !(d == 10)) = r.dropWhile (fun d => !(d == 10)) ++ x
  | [] => by rcases hx with rfl | ⟨y, rfl⟩ <;> rfl
  | c :: r => by
    simp only [List.cons_append, List.dropWhile_cons, dropWhile_app hx r]
    split <;> rfl
theorem blanks_app {x : Bytes} (hx : Ends x) : ∀ (n : Nat) (r : Bytes), r.length ≤ n → blanks r ≠ [92] → blanks (r ++ x) = blanks r ++ x
  | _, [], _, _ => by
    rcases hx with rfl | ⟨y, rfl⟩
    · rfl
    · simp [blanks, blanks_nl]
  | 0, _ :: _, hn, _ => by simp at hn
  | n + 1, [c], hn, h => by
    rcases hx with rfl | ⟨y, rfl⟩
    · simp
    · simp only [List.cons_append, List.nil_append]
      simp only [blanks] at h ⊢
      by_cases h1 : (c == 32 || c == 9) = true
      · simp [h1, blanks_nl]
      · by_cases h2 : (c == 35) = true
        · simp [h2, blanks_nl]
        · have h1' : (c == 32 || c == 9) = false := by simpa using h1
          have h2' : (c == 35) = false := by simpa using h2
          have h3 : (c == 92) = false := by
            cases h3 : c == 92
            · rfl
            · have : c = 92 := by simpa using h3
              subst this
              simp at h
          simp [h1', h2', h3]
  | n + 1, c :: d :: r, hn, h => by
    simp only [List.length_cons] at hn
    simp only [List.cons_append]
    simp only [blanks] at h ⊢
    split
    · rename_i h1
      rw [if_pos h1] at h
      exact blanks_app hx n (d :: r) (by simp; omega) h
    · rename_i h1
      rw [if_neg h1] at h
      split
      · rw [← List.cons_append, dropWhile_app hx]
      · rename_i h2
        rw [if_neg h2] at h
        split
        · rename_i h3
          rw [if_pos h3] at h
          exact blanks_app hx n r (by omega) h
        · rfl

/-- No word can be read there. -/
def Lost (r : Bytes) : Prop := ∀ l r', scan (blanks r) ≠ .ok l r'
/-- .. or the text ends there. -/
def Out (r : Bytes) : Prop := Lost r ∨ blanks r = []
theorem scan_meta (c : UInt8) (r : Bytes) (h : metaB c = true) : scan (c :: r) = .ok [] (c :: r) := by
  unfold scan fuel
  rw [show 4 * (c :: r).length + 3 = (4 * (c :: r).length + 2) + 1 from rfl, wordF, if_pos (by simp [h])]
theorem scan_nil : scan [] = .ok [] [] := by simp [scan, fuel, wordF]
theorem lost_idem {r : Bytes} : Lost (blanks r) ↔ Lost r := by unfold Lost; rw [blanks_idem]
theorem out_idem {r : Bytes} : Out (blanks r) ↔ Out r := by unfold Out; rw [lost_idem, blanks_idem]
theorem lost_head {r : Bytes} (h : Lost r) : ∃ c t, blanks r = c :: t ∧ metaB c = false := by
  cases hb : blanks r with
  | nil => exact absurd (by rw [hb]; exact scan_nil) (h [] [])
  | cons c t =>
    refine ⟨c, t, rfl, ?_⟩
    cases hm : metaB c
    · rfl
    · exact absurd (by rw [hb]; exact scan_meta c t hm) (h [] (c :: t))
theorem lost_ne {r : Bytes} (h : Lost r) : blanks r ≠ [] := by
  obtain ⟨c, t, e, _⟩ := lost_head h
  rw [e]; simp
theorem not_lost {r : Bytes} (h : ¬ Lost r) : ∃ l r', scan (blanks r) = .ok l r' := by
  unfold Lost at h
  cases hs : scan (blanks r) with
  | ok l r' => exact ⟨l, r', rfl⟩
  | err a e => exact absurd (fun l r' => by rw [hs]; simp) h
theorem lost_slash {r : Bytes} (h : blanks r = [92]) : Lost r := by
  intro l r'
  rw [h]
  have : scan [92] = .err 1 60 := by simp [scan, fuel, wordF, escape, metaB, metas]
  rw [this]; simp
theorem sgn_nil {r : Bytes} (h : blanks r = []) : sgn r = [] := by unfold sgn; rw [h]; rfl
theorem sgn_lost {r : Bytes} (h : Lost r) : sgn r = [] := by
  obtain ⟨c, t, e, hm⟩ := lost_head h
  unfold sgn
  rw [e]
  simp only [metaB, metas, List.contains_cons, Bool.or_eq_false_iff] at hm
  have hh : ∀ a : UInt8, (c == a) = false → (a == c) = false := by
    intro a; simp; intro h e; exact h e.symm
  simp only [signs, opL, List.isPrefixOf, hh _ hm.2.2.2.1, hh _ hm.2.2.1, hh _ hm.2.2.2.2.1, hh _ hm.2.2.2.2.2.1, hh _ hm.2.2.2.2.2.2.1, hh _ hm.2.2.2.2.2.2.2.1, hh _ hm.2.2.2.2.2.2.2.2.1, hh _ hm.2.2.2.2.2.2.2.2.2.1, Bool.false_and, Bool.false_eq_true, if_false]
theorem sgn_out {r : Bytes} (h : Out r) : sgn r = [] := h.elim sgn_lost sgn_nil
theorem peek_out {r : Bytes} (h : Out r) : peek r = ([], []) := by
  rcases h with h | h
  · unfold peek
    cases hs : scan (blanks r) with
    | ok l r' => exact absurd hs (h l r')
    | err a e => rfl
  · unfold peek; rw [h, scan_nil]
theorem peek_idem2 (r : Bytes) : peek (blanks r) = peek r := by unfold peek; rw [blanks_idem]
theorem sgn_idem2 (r : Bytes) : sgn (blanks r) = sgn r := by unfold sgn; rw [blanks_idem]
theorem over_lost {r : Bytes} (h : Lost r) : over r = false := by
  unfold over
  rw [peek_out (.inl h), sgn_lost h]
  have := lost_ne h
  simp [this]
  decide

section
variable {x : Bytes} (hx : Ends x)
include hx
theorem blanks_A {r : Bytes} (h : x = [] ∨ ¬ Lost r) : blanks (r ++ x) = blanks r ++ x := by
  rcases h with rfl | h
  · simp
  · exact blanks_app hx _ r (Nat.le_refl _) (fun e => h (lost_slash e))
theorem scan_A {r r' : Bytes} {l : List Part} (h : scan (blanks r) = .ok l r') : scan (blanks (r ++ x)) = .ok l (r' ++ x) := by
  rw [blanks_A hx (.inr (fun e => e _ _ h))]
  exact scan_app hx _ _ _ h
theorem peek_A {r : Bytes} (h : x = [] ∨ ¬ Lost r) : (peek (r ++ x)).1 = (peek r).1 ∧ ((peek r).1 ≠ [] → (peek (r ++ x)).2 = (peek r).2 ++ x) := by
  rcases h with rfl | h
  · simp
  · obtain ⟨l, r', hs⟩ := not_lost h
    unfold peek
    rw [scan_A hx hs, hs]
    match l with
    | [] => simp
    | [.mk k q t o w] =>
      dsimp only
      split <;> simp
    | a :: b :: l => simp
omit hx in
theorem isPrefixOf_app1 (b : Bytes) (hb : b ≠ []) : [10].isPrefixOf (b ++ x) = [10].isPrefixOf b := by
  cases b with
  | nil => exact absurd rfl hb
  | cons c b => simp [List.isPrefixOf]
theorem opL_A (b : Bytes) (hb : b ≠ []) : ∀ (os : List Bytes), os.all (fun o => !o.contains 10 || o == [10]) = true → opL os (b ++ x) = opL os b
  | [], _ => rfl
  | o :: os, h => by
    simp only [List.all_cons, Bool.and_eq_true, Bool.or_eq_true, Bool.not_eq_true', beq_iff_eq] at h
    have he : o.isPrefixOf (b ++ x) = o.isPrefixOf b := by
      rcases h.1 with h1 | rfl
      · exact isPrefixOf_app hx o b h1
      · exact isPrefixOf_app1 b hb
    simp only [opL, he, opL_A b hb os h.2]
theorem sgn_A {r : Bytes} (h : x = [] ∨ ¬ Out r) : sgn (r ++ x) = sgn r := by
  rcases h with rfl | h
  · simp
  · unfold sgn
    rw [blanks_A hx (.inr (fun e => h (.inl e)))]
    exact opL_A hx _ (fun e => h (.inr e)) _ (by decide)
theorem sgn_is {r : Bytes} (h : x = [] ∨ ¬ Lost r) (s : Bytes) (h1 : s ≠ []) (h2 : s ≠ [10]) : (sgn (r ++ x) == s) = (sgn r == s) := by
  by_cases h3 : x = [] ∨ ¬ Out r
  · rw [sgn_A hx h3]
  · simp only [not_or, Classical.not_not] at h3
    have hl : ¬ Lost r := h.elim (fun e => absurd e h3.1) id
    have hb : blanks r = [] := h3.2.elim (fun e => absurd e hl) id
    rw [sgn_nil hb]
    unfold sgn
    rw [blanks_A hx h, hb]
    rcases hx with rfl | ⟨y, rfl⟩
    · exact absurd rfl h3.1
    · have : opL signs ([] ++ 10 :: y) = [10] := by
        simp [signs, opL, List.isPrefixOf]
      rw [this]
      have e1 : ([10] == s) = false := by simpa using fun e => h2 e.symm
      have e2 : (([] : Bytes) == s) = false := by simpa using h1
      rw [e1, e2]
theorem stop_A {r : Bytes} (h : x = [] ∨ ¬ Lost r) : (sgn (r ++ x) != [] || (blanks (r ++ x)).isEmpty) = (sgn r != [] || (blanks r).isEmpty) := by
  by_cases h3 : x = [] ∨ ¬ Out r
  · rw [sgn_A hx h3, blanks_A hx h]
    rcases h3 with rfl | h3
    · simp
    · have hb : blanks r ≠ [] := fun e => h3 (.inr e)
      cases hbb : blanks r with
      | nil => exact absurd hbb hb
      | cons c t => rfl
  · simp only [not_or, Classical.not_not] at h3
    have hl : ¬ Lost r := h.elim (fun e => absurd e h3.1) id
    have hb : blanks r = [] := h3.2.elim (fun e => absurd e hl) id
    unfold sgn
    rw [blanks_A hx h, hb]
    rcases hx with rfl | ⟨y, rfl⟩
    · exact absurd rfl h3.1
    · have : opL signs ([] ++ 10 :: y) = [10] := by
        simp [signs, opL, List.isPrefixOf]
      rw [this]; rfl
theorem over_A {r : Bytes} (h : x = [] ∨ ¬ Out r) : over (r ++ x) = over r := by
  have hl : x = [] ∨ ¬ Lost r := h.imp id (fun h e => h (.inl e))
  unfold over
  rw [(peek_A hx hl).1, sgn_A hx h, blanks_A hx hl]
  rcases h with rfl | h
  · simp
  · have hb : blanks r ≠ [] := fun e => h (.inr e)
    cases hbb : blanks r with
    | nil => exact absurd hbb hb
    | cons c t => rfl
theorem linesF_A : ∀ (n n' : Nat) (r : Bytes), r.length < n → (r ++ x).length < n' → x = [] ∨ Out (linesF n r) ∨ linesF n' (r ++ x) = linesF n r ++ x
  | 0, _, _, h, _ => by omega
  | _ + 1, 0, _, _, h => by omega
  | n + 1, n' + 1, r, h, h' => by
    by_cases hx0 : x = []
    · exact .inl hx0
    right
    by_cases hb : blanks r = [92]
    · left; left
      have : linesF (n + 1) r = [92] := by rw [linesF, hb]; rfl
      rw [this]; exact lost_slash rfl
    · have e := blanks_app hx _ r (Nat.le_refl _) hb
      have hl := blanks_le r
      rw [linesF, linesF, e]
      cases hbr : blanks r with
      | nil => left; right; rfl
      | cons c t =>
        rw [hbr] at hl
        simp only [List.length_cons] at hl
        simp only [List.cons_append]
        split
        · rcases linesF_A n n' t (by omega) (by simp at h' ⊢; omega) with h1 | h1 | h1
          · exact absurd h1 hx0
          · exact .inl h1
          · exact .inr h1
        · exact .inr rfl
theorem lines_A (r : Bytes) : x = [] ∨ Out (lines r) ∨ lines (r ++ x) = lines r ++ x := linesF_A hx _ _ r (by omega) (by simp)
end
theorem linesF_stop : ∀ (n : Nat) (r : Bytes), r.length < n → blanks (linesF n r) = linesF n r
  | 0, _, h => by omega
  | n + 1, r, h => by
    have hl := blanks_le r
    have hi := blanks_idem r
    rw [linesF]
    cases hbr : blanks r with
    | nil => rfl
    | cons c t =>
      rw [hbr] at hl hi
      simp only [List.length_cons] at hl
      dsimp only
      split
      · exact linesF_stop n t (by omega)
      · exact hi
theorem lines_stop (r : Bytes) : blanks (lines r) = lines r := linesF_stop _ r (by omega)
theorem lines_lost {r : Bytes} (h : Lost r) : lines r = blanks r := by
  obtain ⟨c, t, e, hm⟩ := lost_head h
  have hc : (c == 10) = false := by
    simp only [metaB, metas, List.contains_cons, Bool.or_eq_false_iff] at hm
    exact hm.2.2.1
  unfold lines
  rw [linesF, e]
  simp [hc]
theorem lines_nil {r : Bytes} (h : blanks r = []) : lines r = [] := by
  unfold lines
  rw [linesF, h]
theorem lines_out {r : Bytes} (h : Out r) : Out (lines r) := by
  rcases h with h | h
  · rw [lines_lost h]; exact .inl (lost_idem.2 h)
  · rw [lines_nil h]; exact .inr rfl
end Go.Proofs.Ytdfnkmiabmjolaa
namespace Go.Proofs.Ytdfnkmiabmjolaa
set_option linter.unusedVariables false
set_option linter.unusedSimpArgs false

/-- Y is what X is, with x behind it; or the place is one where nothing is read any more (G); or Y is too deep. -/
def Ok3 {α : Type} (x : Bytes) (D : Prop) (G : Bytes → Prop) (X Y : Rs α) : Prop :=
  ∀ v r', X = .ok v r' → (x ≠ [] ∧ G r') ∨ Y = .ok v (r' ++ x) ∨ (D ∧ ∃ l, Y = .err l 63)
def Not {α : Type} (X : Rs α) : Prop := ∀ v r', X ≠ .ok v r'
/-- Nothing is read at a place where no word is. -/
def Eats {α : Type} (F : Bytes → Rs α) : Prop := ∀ r, Out r → Not (F r)

theorem not_bind {α β : Type} {X : Rs α} {f : α → Bytes → Rs β} (h : Not X) : Not (X.bind f) := by
  intro v r' e
  obtain ⟨a, r1, h1, _⟩ := bind_ok.1 e
  exact h _ _ h1
theorem not_bind2 {α β : Type} {X : Rs α} {f : α → Bytes → Rs β} (h : ∀ a r1, X = .ok a r1 → Not (f a r1)) : Not (X.bind f) := by
  intro v r' e
  obtain ⟨a, r1, h1, h2⟩ := bind_ok.1 e
  exact h _ _ h1 _ _ h2
theorem not_fail {α : Type} (r : Bytes) (e : Int) : Not (failS r e : Rs α) := by
  intro v r'
  unfold failS failP
  split <;> simp
theorem not_err {α : Type} (l : Nat) (e : Int) : Not (.err l e : Rs α) := by intro v r'; simp
theorem ok3_not {α : Type} {x : Bytes} {D : Prop} {G : Bytes → Prop} {X Y : Rs α} (h : Not X) : Ok3 x D G X Y := fun v r' e => absurd e (h v r')
theorem ok3_rfl {α : Type} {x : Bytes} {D : Prop} {G : Bytes → Prop} {v : α} {r r2 : Bytes} (h : r2 = r ++ x) : Ok3 x D G (.ok v r) (.ok v r2) := by
  intro v' r' e
  simp only [Rs.ok.injEq] at e
  obtain ⟨rfl, rfl⟩ := e
  exact .inr (.inl (by rw [h]))
theorem ok3_gone {α : Type} {x : Bytes} {D : Prop} {G : Bytes → Prop} {v : α} {r : Bytes} {Y : Rs α} (hx : x ≠ []) (h : G r) : Ok3 x D G (.ok v r) Y := by
  intro v' r' e
  simp only [Rs.ok.injEq] at e
  obtain ⟨rfl, rfl⟩ := e
  exact .inl ⟨hx, h⟩
theorem ok3_bind {α β : Type} {x : Bytes} {D : Prop} {G G' : Bytes → Prop} {X Y : Rs α} {f g : α → Bytes → Rs β} (h : Ok3 x D G X Y) (hK : ∀ a r1, X = .ok a r1 → x ≠ [] → G r1 → ∀ v r', f a r1 = .ok v r' → G' r')
    (hf : ∀ a r1, X = .ok a r1 → (x = [] ∨ ¬ G r1) → Ok3 x D G' (f a r1) (g a (r1 ++ x))) : Ok3 x D G' (X.bind f) (Y.bind g) := by
  intro v r' e
  obtain ⟨a, r1, h1, h2⟩ := bind_ok.1 e
  rcases h a r1 h1 with ⟨h3, h4⟩ | h3 | ⟨hD, l, h3⟩
  · exact .inl ⟨h3, hK a r1 h1 h3 h4 v r' h2⟩
  · by_cases hG : x ≠ [] ∧ G r1
    · exact .inl ⟨hG.1, hK a r1 h1 hG.1 hG.2 v r' h2⟩
    · have hG' : x = [] ∨ ¬ G r1 := by
        by_cases h5 : x = []
        · exact .inl h5
        · exact .inr (fun e => hG ⟨h5, e⟩)
      rw [h3]
      exact hf a r1 h1 hG' v r' h2
  · exact .inr (.inr ⟨hD, l, by rw [h3]; rfl⟩)
/-- The same, where the place is always a good one. -/
theorem ok3_bind0 {α β : Type} {x : Bytes} {D : Prop} {G G' : Bytes → Prop} {X Y : Rs α} {f g : α → Bytes → Rs β} (h : Ok3 x D G X Y) (hK : ∀ a r1, X = .ok a r1 → G r1 → Not (f a r1))
    (hf : ∀ a r1, X = .ok a r1 → (x = [] ∨ ¬ G r1) → Ok3 x D G' (f a r1) (g a (r1 ++ x))) : Ok3 x D G' (X.bind f) (Y.bind g) :=
  ok3_bind h (fun a r1 h1 _ h2 v r' e => absurd e (hK a r1 h1 h2 v r')) hf
theorem ok3_deep {α : Type} {x : Bytes} {D : Prop} {G : Bytes → Prop} {X : Rs α} (r : Bytes) (hD : D) : Ok3 x D G X (failS r 63) := fun v r' e => .inr (.inr ⟨hD, r.length, by unfold failS failP; simp⟩)
theorem ok3_mono {α : Type} {x : Bytes} {D : Prop} {G G' : Bytes → Prop} {X Y : Rs α} (h : Ok3 x D G X Y) (hG : ∀ r, G r → G' r) : Ok3 x D G' X Y := fun v r' e => (h v r' e).imp (fun h => ⟨h.1, hG _ h.2⟩) id
theorem ok3_ite {α : Type} {x : Bytes} {D : Prop} {G : Bytes → Prop} {b b' : Bool} {X Y X' Y' : Rs α} (hb : b' = b) (h1 : b = true → Ok3 x D G X X') (h2 : b = false → Ok3 x D G Y Y') : Ok3 x D G (if b = true then X else Y) (if b' = true then X' else Y') := by
  subst hb
  cases b' with
  | true => simpa using h1 rfl
  | false => simpa using h2 rfl

/-! must, want, take -/
theorem must_eats (s : Bytes) (hs : s ≠ []) : Eats (mustP s) := by
  intro r h
  unfold mustP
  rw [peek_out h, if_neg (by simpa using hs)]
  exact not_fail _ _
theorem want_eats (s : Bytes) (hs : s ≠ []) : Eats (wantP s) := by
  intro r h
  unfold wantP
  rw [sgn_out h, if_neg (by simpa using hs)]
  exact not_fail _ _
section
variable {x : Bytes} (hx : Ends x) {D : Prop}
theorem xcase (x : Bytes) (P : Prop) : (x = [] ∨ ¬ P) ∨ P := by
  by_cases h : P
  · exact .inr h
  · exact .inl (.inr h)
include hx
theorem must_E (G : Bytes → Prop) (s : Bytes) (hs : s ≠ []) (r : Bytes) : Ok3 x D G (mustP s r) (mustP s (r ++ x)) := by
  rcases xcase x (Out r) with h | h
  · have hp := peek_A hx (r := r) (h.imp id (fun h e => h (.inl e)))
    unfold mustP
    refine ok3_ite (by rw [hp.1]) (fun hb => ?_) (fun _ => ok3_not (not_fail _ _))
    have : (peek r).1 = s := by simpa using hb
    exact ok3_rfl (hp.2 (by rw [this]; exact hs))
  · exact ok3_not (must_eats s hs r h)
theorem want_E (G : Bytes → Prop) (s : Bytes) (hs : s ≠ []) (r : Bytes) : Ok3 x D G (wantP s r) (wantP s (r ++ x)) := by
  rcases xcase x (Out r) with h | h
  · have hl : x = [] ∨ ¬ Lost r := h.imp id (fun h e => h (.inl e))
    unfold wantP
    refine ok3_ite (by rw [sgn_A hx h]) (fun hb => ?_) (fun _ => ok3_not (not_fail _ _))
    have hb' : sgn r = s := by simpa using hb
    rw [blanks_A hx hl]
    refine ok3_rfl (drop_app _ _ ?_)
    rw [← hb']
    exact opL_prefix _ _
  · exact ok3_not (want_eats s hs r h)
theorem take_A {r : Bytes} (h : x = [] ∨ ¬ Lost r) (s : Bytes) (h1 : s ≠ []) (h2 : s ≠ [10]) : takeR s (r ++ x) = takeR s r ++ x := by
  unfold takeR
  rw [sgn_is hx h s h1 h2, blanks_A hx h]
  split
  · rename_i hb
    have hb' : sgn r = s := by simpa using hb
    refine drop_app _ _ ?_
    rw [← hb']
    exact opL_prefix _ _
  · rfl
end
theorem take_out {r : Bytes} (h : Out r) (s : Bytes) (h1 : s ≠ []) : takeR s r = blanks r := by
  unfold takeR
  rw [sgn_out h, if_neg (by simpa using h1)]

/-! redir -/
theorem digit_plain (c : UInt8) (h : digit c = true) : metaB c = false ∧ (c == 92) = false ∧ (c == 39) = false ∧ (c == 34) = false ∧ (c == 96) = false ∧ (c == 36) = false := by
  have : 48 ≤ c.toNat ∧ c.toNat ≤ 57 := by
    have h2 : (48 : Int) ≤ (c.toNat : Int) ∧ (c.toNat : Int) ≤ 57 := by simpa [digit, digitB] using h
    omega
  have key : ∀ k : UInt8, (k.toNat < 48 ∨ 57 < k.toNat) → (c == k) = false := by
    intro k hk
    have : c ≠ k := by rintro rfl; omega
    simpa using this
  refine ⟨?_, key _ (by decide), key _ (by decide), key _ (by decide), key _ (by decide), key _ (by decide)⟩
  simp only [metaB, metas, List.contains_cons, key 32 (by decide), key 9 (by decide), key 10 (by decide), key 59 (by decide), key 38 (by decide), key 124 (by decide), key 60 (by decide), key 62 (by decide), key 40 (by decide), key 41 (by decide), Bool.false_or, List.contains_nil]
theorem scan_digit (c d : UInt8) (r : Bytes) (h : digit c = true) (hd : metaB d = true) : scan (c :: d :: r) = .ok [lit [c] false] (d :: r) := by
  obtain ⟨h0, h1, h2, h3, h4, h5⟩ := digit_plain c h
  unfold scan fuel
  rw [show 4 * (c :: d :: r).length + 3 = (4 * (c :: d :: r).length + 1 + 1) + 1 from rfl, wordF]
  simp only [h0, h1, h2, h3, h4, h5, Bool.false_and, Bool.not_false, Bool.true_and, Bool.or_self, Bool.false_eq_true, if_false]
  rw [wordF, if_pos (by simp [hd])]
  rfl
theorem fd_lost {r : Bytes} (h : Lost r) : fdP (blanks r) = (-1, blanks r) := by
  obtain ⟨c, t, e, hm⟩ := lost_head h
  rw [e]
  cases t with
  | nil => rfl
  | cons d t =>
    unfold fdP
    dsimp only
    split
    · rename_i hd
      simp only [Bool.and_eq_true, Bool.or_eq_true, beq_iff_eq] at hd
      refine absurd (scan_digit c d t hd.1 ?_) (by have := h [lit [c] false] (d :: t); rwa [e] at this)
      rcases hd.2 with rfl | rfl <;> decide
    · rfl
theorem redir_lost {wd : Bytes → Rs (List Part)} {r : Bytes} (h : Lost r) : redirP wd r = .ok none (blanks r) := by
  unfold redirP
  rw [fd_lost h]
  dsimp only
  rw [sgn_lost (lost_idem.2 h)]
  rfl
theorem redir_nil {wd : Bytes → Rs (List Part)} {r : Bytes} (h : blanks r = []) : redirP wd r = .ok none [] := by
  unfold redirP
  rw [h]
  rfl
theorem redir_out {wd : Bytes → Rs (List Part)} {r : Bytes} (h : Out r) : redirP wd r = .ok none (blanks r) := by
  rcases h with h | h
  · exact redir_lost h
  · rw [redir_nil h, h]
theorem redirs_out {wd : Bytes → Rs (List Part)} {r : Bytes} (h : Out r) (n : Nat) (rs : List Rdr) : redirsF wd (n + 1) rs r = .ok rs (blanks r) := by
  rw [redirsF, redir_out h]
  rfl
section
variable {x : Bytes} (hx : Ends x) {D : Prop} {wd wd' : Bytes → Rs (List Part)}
def SimF {α : Type} (x : Bytes) (D : Prop) (G : Bytes → Prop) (F F' : Bytes → Rs α) : Prop := ∀ r, Ok3 x D G (F r) (F' (r ++ x))
theorem meta_in {c : UInt8} {r : Bytes} (hb : blanks (c :: r) = c :: r) (h : metaB c = true) : ¬ Out (c :: r) := by
  rintro (h1 | h1)
  · exact h1 [] (c :: r) (by rw [hb]; exact scan_meta c r h)
  · rw [hb] at h1; simp at h1
include hx
theorem fd_A (b : Bytes) : fdP (b ++ x) = ((fdP b).1, (fdP b).2 ++ x) := by
  match b with
  | [] =>
    rcases hx with rfl | ⟨y, rfl⟩
    · rfl
    · simp only [List.nil_append]
      cases y with
      | nil => rfl
      | cons d y => rfl
  | [c] =>
    rcases hx with rfl | ⟨y, rfl⟩
    · rfl
    · simp only [List.cons_append, List.nil_append]
      unfold fdP
      simp
  | c :: d :: r =>
    simp only [List.cons_append]
    unfold fdP
    dsimp only
    split <;> rfl
theorem redir_E (hwd : SimF x D Lost wd wd') : SimF x D Lost (redirP wd) (redirP wd') := by
  intro r
  rcases xcase x (Lost r) with h | h
  · have hb := blanks_A hx h
    have hfd := fd_A hx (blanks r)
    have hp2 : (fdP (blanks r)).2 = blanks r ∨ ∃ d t, (fdP (blanks r)).2 = d :: t ∧ blanks (d :: t) = d :: t ∧ metaB d = true := by
      unfold fdP
      split
      · rename_i c d t heq
        split
        · rename_i hd
          right
          simp only [Bool.and_eq_true, Bool.or_eq_true, beq_iff_eq] at hd
          refine ⟨d, t, rfl, ?_, ?_⟩
          · rcases hd.2 with rfl | rfl
            · exact blanks_stop _ _ rfl rfl rfl
            · exact blanks_stop _ _ rfl rfl rfl
          · rcases hd.2 with rfl | rfl <;> decide
        · exact .inl rfl
      · exact .inl rfl
    have hL : x = [] ∨ ¬ Lost (fdP (blanks r)).2 := by
      rcases hp2 with e | ⟨d, t, e, e2, e3⟩
      · rw [e]
        exact h.imp id (fun h e => h (lost_idem.1 e))
      · rw [e]
        exact .inr (fun h => meta_in e2 e3 (.inl h))
    unfold redirP
    rw [hb, hfd]
    dsimp only
    generalize fdP (blanks r) = p at *
    obtain ⟨fd, p2⟩ := p
    dsimp only at hL ⊢
    have hB2 := blanks_A hx hL
    have hdr : (blanks p2 ++ x).drop (sgn p2).length = (blanks p2).drop (sgn p2).length ++ x := drop_app _ _ (opL_prefix _ _)
    by_cases hout : x = [] ∨ ¬ Out p2
    · rw [sgn_A hx hout, hB2, hdr]
      refine ok3_ite rfl (fun _ => ?_) (fun _ => ok3_ite rfl (fun _ => ?_) (fun _ => ok3_rfl rfl))
      · refine ok3_bind (hwd _) ?_ (fun a r1 _ _ => ok3_rfl rfl)
        intro a r1 _ _ hG v r' e
        simp only [Rs.ok.injEq] at e
        exact e.2 ▸ hG
      · refine ok3_bind (hwd _) ?_ (fun a r1 _ _ => ok3_rfl rfl)
        intro a r1 _ _ hG v r' e
        simp only [Rs.ok.injEq] at e
        exact e.2 ▸ hG
    · simp only [not_or, Classical.not_not] at hout
      have e1 := sgn_is hx hL
      rw [e1 [60] (by simp) (by simp), e1 [60, 38] (by simp) (by simp), e1 [62] (by simp) (by simp), e1 [62, 62] (by simp) (by simp), e1 [62, 38] (by simp) (by simp), sgn_out hout.2]
      exact ok3_rfl rfl
  · rw [redir_lost h]
    intro v r' e
    simp only [Rs.ok.injEq] at e
    obtain ⟨rfl, rfl⟩ := e
    by_cases hx0 : x = []
    · subst hx0
      right; left
      rw [List.append_nil, redir_lost h, List.append_nil]
    · exact .inl ⟨hx0, lost_idem.2 h⟩
theorem redirs_E (hwd : SimF x D Lost wd wd') : ∀ (n n' : Nat) (rs : List Rdr), n ≤ n' → SimF x D Lost (redirsF wd n rs) (redirsF wd' n' rs)
  | 0, _, _, _ => fun r => ok3_not (by rw [redirsF]; exact not_err _ _)
  | _ + 1, 0, _, h => by omega
  | n + 1, n' + 1, rs, h => by
    intro r
    rw [redirsF, redirsF]
    refine ok3_bind (redir_E hx hwd r) ?_ ?_
    · intro o r1 _ _ hG v r' e
      cases o with
      | none => simp only [Rs.ok.injEq] at e; exact e.2 ▸ hG
      | some y =>
        cases n with
        | zero => simp [redirsF] at e
        | succ n =>
          dsimp only at e
          rw [redirs_out (.inl hG)] at e
          simp only [Rs.ok.injEq] at e
          exact e.2 ▸ lost_idem.2 hG
    · intro o r1 _ _
      cases o with
      | none => exact ok3_rfl rfl
      | some y => exact redirs_E hwd n n' _ (by omega) r1
end
end Go.Proofs.Ytdfnkmiabmjolaa
namespace Go.Proofs.Ytdfnkmiabmjolaa
set_option linter.unusedVariables false
set_option linter.unusedSimpArgs false

theorem ok_inj {α : Type} {v v' : α} {r r' : Bytes} (h : (Rs.ok v r : Rs α) = .ok v' r') : v = v' ∧ r = r' := by simpa using h

/-! simple -/
section
variable {wd : Bytes → Rs (List Part)} {fn : Bytes → Bytes → Rs Cmd}
theorem simple_lost (hwd : Eats wd) (n : Nat) (xs : List Asg) (ws : List (List Part)) (rs : List Rdr) {r : Bytes} (h : Lost r) : Not (simpleF wd fn n xs ws rs r) := by
  cases n with
  | zero => rw [simpleF]; exact not_err _ _
  | succ n =>
    rw [simpleF, redir_lost h]
    simp only [Rs.bind, peek_out (.inl (lost_idem.2 h)), sgn_lost (lost_idem.2 h), blanks_idem]
    have hc : closing [] = false := by decide
    have hn : nameB [] = false := by decide
    have hne : (blanks r).isEmpty = false := by
      have := lost_ne h
      cases hb : blanks r with
      | nil => exact absurd hb this
      | cons c t => rfl
    simp only [hc, hn, hne, Bool.and_false, Bool.false_and, Bool.false_eq_true, if_false, bne_self_eq_false, Bool.or_self]
    exact not_bind (hwd _ (.inl (lost_idem.2 h)))
theorem simple_eats (hwd : Eats wd) (n : Nat) : Eats (simpleF wd fn n [] [] []) := by
  rintro r (h | h)
  · exact simple_lost hwd n _ _ _ h
  · cases n with
    | zero => rw [simpleF]; exact not_err _ _
    | succ n =>
      rw [simpleF, redir_nil h]
      simp only [Rs.bind]
      have hp : peek [] = ([], []) := peek_out (.inr rfl)
      rw [hp, show blanks [] = [] from rfl]
      have hc : closing [] = false := by decide
      simp only [hc, List.length_nil, Nat.add_zero, BEq.rfl, Bool.and_false, Bool.false_eq_true, if_false, List.isEmpty_nil, Bool.or_true, if_true]
      exact not_fail _ _
end
section
variable {x : Bytes} (hx : Ends x) {D : Prop} {wd wd' : Bytes → Rs (List Part)} {fn fn' : Bytes → Bytes → Rs Cmd}
include hx
theorem simple_E (hwd : SimF x D Lost wd wd') (hE : Eats wd) (hfn : ∀ name, SimF x D Lost (fn name) (fn' name)) : ∀ (n n' : Nat) (xs : List Asg) (ws : List (List Part)) (rs : List Rdr), n ≤ n' → SimF x D Lost (simpleF wd fn n xs ws rs) (simpleF wd' fn' n' xs ws rs)
  | 0, _, _, _, _, _ => fun r => ok3_not (by rw [simpleF]; exact not_err _ _)
  | _ + 1, 0, _, _, _, h => by omega
  | n + 1, n' + 1, xs, ws, rs, h => by
    intro r
    have IH := fun xs ws rs => simple_E hwd hE hfn n n' xs ws rs (by omega)
    by_cases hL : x ≠ [] ∧ Lost r
    · exact ok3_not (simple_lost hE _ _ _ _ hL.2)
    rw [simpleF, simpleF]
    refine ok3_bind0 (redir_E hx hwd r) ?_ ?_
    · intro o b ho hG
      cases o with
      | some y => exact simple_lost hE _ _ _ _ hG
      | none =>
        have := simple_lost (wd := wd) (fn := fn) hE (n + 1) xs ws rs hG
        rw [simpleF, redir_lost hG] at this
        simp only [Rs.bind, peek_idem2, sgn_idem2, blanks_idem] at this ⊢
        exact this
    · intro o b ho hG
      cases o with
      | some y => exact IH _ _ _ b
      | none =>
        dsimp only
        have hp := peek_A hx hG
        have hB := blanks_A hx hG
        rw [hp.1]
        refine ok3_ite rfl (fun _ => ok3_not (not_fail _ _)) (fun _ => ?_)
        refine ok3_ite (stop_A hx hG) (fun _ => ok3_ite rfl (fun _ => ok3_not (not_fail _ _)) (fun _ => ok3_rfl hB)) (fun hst => ?_)
        have hhead : (xs.length + ws.length + rs.length == 0 && nameB (peek b).1 && (peek (b ++ x)).2.head? == some 40) = (xs.length + ws.length + rs.length == 0 && nameB (peek b).1 && (peek b).2.head? == some 40) := by
          cases hn : nameB (peek b).1 with
          | false => simp
          | true =>
            have hne : (peek b).1 ≠ [] := by
              intro e; rw [e] at hn; simp [nameB] at hn
            rw [hp.2 hne]
            cases hq : (peek b).2 with
            | nil => rcases hx with rfl | ⟨y, rfl⟩ <;> rfl
            | cons c t => rfl
        refine ok3_ite hhead (fun hb => ?_) (fun _ => ?_)
        · simp only [Bool.and_eq_true, beq_iff_eq] at hb
          have hne : (peek b).1 ≠ [] := by
            intro e; rw [e] at hb; simp [nameB] at hb
          rw [hp.2 hne]
          have hl : 1 ≤ (peek b).2.length := by
            cases hq : (peek b).2 with
            | nil => rw [hq] at hb; simp at hb
            | cons c t => simp
          rw [drop_app _ _ hl]
          exact hfn _ _
        · rw [hB]
          refine ok3_bind0 (hwd _) ?_ ?_
          · intro l b' _ hG2
            cases assigned l with
            | none => exact simple_lost hE _ _ _ _ hG2
            | some a =>
              cases ws.isEmpty with
              | true => exact simple_lost hE _ _ _ _ hG2
              | false => exact simple_lost hE _ _ _ _ hG2
          · intro l b' _ hG2
            cases assigned l with
            | none => exact IH _ _ _ b'
            | some a =>
              cases ws.isEmpty with
              | true => exact IH _ _ _ b'
              | false => exact IH _ _ _ b'

/-! what holds lists -/
variable {ls ls' : Bytes → Rs (List Lst)}
omit hx in
theorem loop_eats : Eats (loopP ls) := fun r h => not_bind (must_eats _ (by simp) r h)
theorem loop_E (hls : SimF x D Out ls ls') (hE : Eats ls) : SimF x D Lost (loopP ls) (loopP ls') := by
  intro r
  unfold loopP
  refine ok3_bind0 (must_E hx Lost _ (by simp) r) (fun _ r1 h1 hG => not_bind (hE _ (.inl hG))) (fun _ r1 _ _ => ?_)
  refine ok3_bind0 (hls r1) (fun l r2 _ hG => not_bind (must_eats _ (by simp) _ hG)) (fun l r2 _ _ => ?_)
  exact ok3_bind (must_E hx Lost _ (by simp) r2) (fun _ r3 _ _ hG v r' e => (ok_inj e).2 ▸ hG) (fun _ r3 _ _ => ok3_rfl rfl)
omit hx in
theorem words_out (hE : Eats wd) (n : Nat) (ws : List (List Part)) {r : Bytes} (h : Out r) : Not (wordsF wd n ws r) := by
  cases n with
  | zero => rw [wordsF]; exact not_err _ _
  | succ n =>
    rw [wordsF, sgn_out h]
    simp only [show (([] : Bytes) == [59]) = false from rfl, show (([] : Bytes) == [10]) = false from rfl, Bool.or_self, Bool.false_eq_true, if_false]
    exact not_bind (hE _ (out_idem.2 h))
theorem words_E (hwd : SimF x D Lost wd wd') (hE : Eats wd) : ∀ (n n' : Nat) (ws : List (List Part)), n ≤ n' → SimF x D Lost (wordsF wd n ws) (wordsF wd' n' ws)
  | 0, _, _, _ => fun r => ok3_not (by rw [wordsF]; exact not_err _ _)
  | _ + 1, 0, _, h => by omega
  | n + 1, n' + 1, ws, h => by
    intro r
    rcases xcase x (Out r) with ho | ho
    · have hl : x = [] ∨ ¬ Lost r := ho.imp id (fun h e => h (.inl e))
      rw [wordsF, wordsF, sgn_A hx ho, blanks_A hx hl]
      refine ok3_ite rfl (fun _ => ok3_rfl rfl) (fun _ => ?_)
      exact ok3_bind0 (hwd _) (fun w r' _ hG => words_out hE _ _ (.inl hG)) (fun w r' _ _ => words_E hwd hE n n' _ (by omega) r')
    · exact ok3_not (words_out hE _ _ ho)
omit hx in
theorem each_eats : Eats (eachP wd ls) := by
  intro r h
  unfold eachP
  rw [peek_out h, if_neg (by decide)]
  exact not_fail _ _
theorem each_E (hwd : SimF x D Lost wd wd') (hE : Eats wd) (hls : SimF x D Out ls ls') (hEl : Eats ls) : SimF x D Lost (eachP wd ls) (eachP wd' ls') := by
  intro r
  rcases xcase x (Out r) with ho | ho
  · have hl : x = [] ∨ ¬ Lost r := ho.imp id (fun h e => h (.inl e))
    have hp := peek_A hx hl
    unfold eachP
    refine ok3_ite (by rw [hp.1]) (fun hn => ?_) (fun _ => ok3_not (not_fail _ _))
    have hne : (peek r).1 ≠ [] := by
      intro e; rw [e] at hn; simp [nameB] at hn
    rw [hp.2 hne, hp.1]
    generalize (peek r).2 = q
    have hend : ∀ r1, Out r1 → Not ((loopP ls (lines (takeR [59] r1))).bind fun l r2 => (.ok (.mk 7 (peek r).1 [] [] [] l [] [] []) r2 : Rs Cmd)) := by
      intro r1 h1
      refine not_bind (loop_eats _ (lines_out ?_))
      rw [take_out h1 _ (by simp)]
      exact out_idem.2 h1
    have hend2 : ∀ (ws : List (List Part)) r1, Out r1 → Not ((loopP ls (lines (takeR [59] r1))).bind fun l r2 => (.ok (.mk 7 (peek r).1 [] ws [] l [] [] []) r2 : Rs Cmd)) := by
      intro ws r1 h1
      refine not_bind (loop_eats _ (lines_out ?_))
      rw [take_out h1 _ (by simp)]
      exact out_idem.2 h1
    have hgo : ∀ (ws : List (List Part)) r1, (x = [] ∨ ¬ Lost r1) → Ok3 x D Lost ((loopP ls (lines (takeR [59] r1))).bind fun l r2 => (.ok (.mk 7 (peek r).1 [] ws [] l [] [] []) r2 : Rs Cmd)) ((loopP ls' (lines (takeR [59] (r1 ++ x)))).bind fun l r2 => (.ok (.mk 7 (peek r).1 [] ws [] l [] [] []) r2 : Rs Cmd)) := by
      intro ws r1 h1
      rw [take_A hx h1 _ (by simp) (by simp)]
      rcases lines_A hx (takeR [59] r1) with h2 | h2 | h2
      · subst h2
        simp only [List.append_nil]
        have := loop_E hx hls hEl (lines (takeR [59] r1))
        rw [List.append_nil] at this
        exact ok3_bind this (fun _ r3 _ hx0 hG v r' e => (ok_inj e).2 ▸ hG) (fun _ r3 _ _ => ok3_rfl (by simp))
      · exact ok3_not (not_bind (loop_eats _ h2))
      · rw [h2]
        exact ok3_bind (loop_E hx hls hEl _) (fun _ r3 _ _ hG v r' e => (ok_inj e).2 ▸ hG) (fun _ r3 _ _ => ok3_rfl rfl)
    have main : ∀ L L', (x = [] ∨ ¬ Out L) → L' = L ++ x → Ok3 x D Lost
        ((if (peek L).1 == [105, 110] then wordsF wd ((peek L).2.length + 1) [] (peek L).2 else .ok [[.mk 2 true [64] [] []]] (blanks L)).bind fun ws r1 => (loopP ls (lines (takeR [59] r1))).bind fun l r2 => (.ok (.mk 7 (peek r).1 [] ws [] l [] [] []) r2 : Rs Cmd))
        ((if (peek L').1 == [105, 110] then wordsF wd' ((peek L').2.length + 1) [] (peek L').2 else .ok [[.mk 2 true [64] [] []]] (blanks L')).bind fun ws r1 => (loopP ls' (lines (takeR [59] r1))).bind fun l r2 => (.ok (.mk 7 (peek r).1 [] ws [] l [] [] []) r2 : Rs Cmd)) := by
      intro L L' hL e
      subst e
      have hLl : x = [] ∨ ¬ Lost L := hL.imp id (fun h e => h (.inl e))
      have hpL := peek_A hx hLl
      refine ok3_bind0 (G := Lost) ?_ (fun ws r1 _ hG => hend2 _ _ (.inl hG)) (fun ws r1 _ hG => hgo ws r1 hG)
      refine ok3_ite (by rw [hpL.1]) (fun hb => ?_) (fun _ => ok3_rfl (blanks_A hx hLl))
      have hne2 : (peek L).1 ≠ [] := by
        intro e; rw [e] at hb; simp at hb
      rw [hpL.2 hne2]
      exact words_E hx hwd hE _ _ _ (by simp) _
    rcases lines_A hx q with h2 | h2 | h2
    · subst h2
      exact main _ _ (.inl rfl) (by simp)
    · refine ok3_not ?_
      rw [peek_out h2, if_neg (by decide)]
      exact hend2 _ _ (out_idem.2 h2)
    · rcases xcase x (Out (lines q)) with h3 | h3
      · exact main _ _ h3 h2
      · refine ok3_not ?_
        rw [peek_out h3, if_neg (by decide)]
        exact hend2 _ _ (out_idem.2 h3)
  · exact ok3_not (each_eats r ho)
end
end Go.Proofs.Ytdfnkmiabmjolaa
namespace Go.Proofs.Ytdfnkmiabmjolaa
set_option linter.unusedVariables false
set_option linter.unusedSimpArgs false

section
variable {x : Bytes} (hx : Ends x) {D : Prop} {wd wd' : Bytes → Rs (List Part)} {ls ls' : Bytes → Rs (List Lst)}
theorem pats_eats (hE : Eats wd) (n : Nat) (ps : List (List Part)) : Eats (patsF wd n ps) := by
  intro r h
  cases n with
  | zero => rw [patsF]; exact not_err _ _
  | succ n => rw [patsF]; exact not_bind (hE _ h)
theorem ite_lost {α : Type} {b : Bool} {X Y : Rs α} {v : α} {r' : Bytes} {P : Prop} (e : (if b = true then X else Y) = .ok v r') (h1 : b = true → X = .ok v r' → P) (h2 : b = false → Y = .ok v r' → P) : P := by
  cases b with
  | true => exact h1 rfl (by simpa using e)
  | false => exact h2 rfl (by simpa using e)
include hx
theorem pats_E (hwd : SimF x D Lost wd wd') (hE : Eats wd) : ∀ (n n' : Nat) (ps : List (List Part)), n ≤ n' → SimF x D Lost (patsF wd n ps) (patsF wd' n' ps)
  | 0, _, _, _ => fun r => ok3_not (by rw [patsF]; exact not_err _ _)
  | _ + 1, 0, _, h => by omega
  | n + 1, n' + 1, ps, h => by
    intro r
    rw [patsF, patsF]
    refine ok3_bind (hwd _) (fun w r1 _ _ hG v r' e => ?_) (fun w r1 _ hG => ?_)
    · rw [sgn_lost hG, if_neg (by decide)] at e
      exact (ok_inj e).2 ▸ lost_idem.2 hG
    · refine ok3_ite (sgn_is hx hG _ (by simp) (by simp)) (fun hb => ?_) (fun _ => ok3_rfl (blanks_A hx hG))
      have hs : sgn r1 = [124] := by simpa using hb
      rw [blanks_A hx hG, drop_app _ _ (by have := opL_prefix signs (blanks r1); change (sgn r1).length ≤ _ at this; rw [hs] at this; simpa using this)]
      exact pats_E hwd hE n n' _ (by omega) _
omit hx in
theorem cases_eats (hE : Eats wd) (n : Nat) (cs : List Cas) : Eats (casesF wd ls n cs) := by
  intro r h
  cases n with
  | zero => rw [casesF]; exact not_err _ _
  | succ n =>
    rw [casesF, peek_out h, if_neg (by decide)]
    refine not_bind (pats_eats hE _ _ _ ?_)
    rw [take_out (out_idem.2 h) _ (by simp)]
    exact out_idem.2 (out_idem.2 h)
omit hx in
theorem drop_sgn {r s : Bytes} (h : (sgn r == s) = true) : s.length ≤ (blanks r).length := by
  have hs : sgn r = s := by simpa using h
  have := opL_prefix signs (blanks r)
  change (sgn r).length ≤ _ at this
  rwa [hs] at this
/-- What follows may stand on lines behind. -/
theorem lines_E {α : Type} {G : Bytes → Prop} {F F' : Bytes → Rs α} (r : Bytes) (hF : ∀ r, (x = [] ∨ ¬ Out r) → Ok3 x D G (F r) (F' (r ++ x))) (hO : ∀ r, Out r → Not (F r)) : Ok3 x D G (F (lines r)) (F' (lines (r ++ x))) := by
  rcases lines_A hx r with h | h | h
  · subst h
    have := hF (lines r) (.inl rfl)
    simpa using this
  · exact ok3_not (hO _ h)
  · rw [h]
    rcases xcase x (Out (lines r)) with h2 | h2
    · exact hF _ h2
    · exact ok3_not (hO _ h2)
theorem cases_E (hwd : SimF x D Lost wd wd') (hE : Eats wd) (hls : SimF x D Out ls ls') (hEl : Eats ls) : ∀ (n n' : Nat) (cs : List Cas), n ≤ n' → ∀ r, (x = [] ∨ ¬ Out r) → Ok3 x D Lost (casesF wd ls n cs r) (casesF wd' ls' n' cs (r ++ x))
  | 0, _, _, _ => fun r _ => ok3_not (by rw [casesF]; exact not_err _ _)
  | _ + 1, 0, _, h => by omega
  | n + 1, n' + 1, cs, h => by
    intro r ho
    have hl : x = [] ∨ ¬ Lost r := ho.imp id (fun h e => h (.inl e))
    have hp := peek_A hx hl
    rw [casesF, casesF]
    refine ok3_ite (by rw [hp.1]) (fun hb => ?_) (fun _ => ?_)
    · have hne : (peek r).1 ≠ [] := by
        intro e; rw [e] at hb; simp at hb
      exact ok3_rfl (hp.2 hne)
    · have hl2 : x = [] ∨ ¬ Lost (blanks r) := hl.imp id (fun h e => h (lost_idem.1 e))
      rw [blanks_A hx hl, take_A hx hl2 _ (by simp) (by simp)]
      refine ok3_bind0 (pats_E hx hwd hE _ _ _ (by simp) _) (fun ps r1 _ hG => not_bind (want_eats _ (by simp) _ (.inl hG))) (fun ps r1 _ _ => ?_)
      refine ok3_bind0 (want_E hx Lost _ (by simp) r1) (fun _ r2 _ hG => ?_) (fun _ r2 _ _ => ?_)
      · -- behind a ) nothing can be read
        have hL : Out (lines r2) := lines_out (.inl hG)
        have hLL : Lost (lines r2) := by rw [lines_lost hG]; exact lost_idem.2 hG
        rw [over_lost hLL]
        simp only [Bool.false_eq_true, if_false]
        exact not_bind (hEl _ (out_idem.2 hL))
      · -- the lists of this case
        have tail : ∀ (l : List Lst) r3, (x = [] ∨ ¬ Out r3) → Ok3 x D Lost
            (if sgn r3 == [59, 59] then casesF wd ls n (cs ++ [.mk ps l]) (lines ((blanks r3).drop 2)) else (mustP [101, 115, 97, 99] (blanks r3)).bind fun _ r4 => .ok (cs ++ [.mk ps l]) r4)
            (if sgn (r3 ++ x) == [59, 59] then casesF wd' ls' n' (cs ++ [.mk ps l]) (lines ((blanks (r3 ++ x)).drop 2)) else (mustP [101, 115, 97, 99] (blanks (r3 ++ x))).bind fun _ r4 => .ok (cs ++ [.mk ps l]) r4) := by
          intro l r3 h3
          have hl3 : x = [] ∨ ¬ Lost r3 := h3.imp id (fun h e => h (.inl e))
          rw [sgn_A hx h3, blanks_A hx hl3]
          refine ok3_ite rfl (fun hb => ?_) (fun _ => ?_)
          · rw [drop_app 2 _ (drop_sgn hb)]
            exact lines_E hx _ (fun r hr => cases_E hwd hE hls hEl n n' _ (by omega) r hr) (fun r hr => cases_eats hE _ _ r hr)
          · exact ok3_bind (must_E hx Lost _ (by simp) _) (fun _ r4 _ _ hG v r' e => (ok_inj e).2 ▸ hG) (fun _ r4 _ _ => ok3_rfl rfl)
        have tailO : ∀ (l : List Lst) r3, Out r3 → Not
            (if sgn r3 == [59, 59] then casesF wd ls n (cs ++ [.mk ps l]) (lines ((blanks r3).drop 2)) else (mustP [101, 115, 97, 99] (blanks r3)).bind fun _ r4 => .ok (cs ++ [.mk ps l]) r4) := by
          intro l r3 h3
          rw [sgn_out h3, if_neg (by decide)]
          exact not_bind (must_eats _ (by simp) _ (out_idem.2 h3))
        refine lines_E (F := fun L => (if over L then .ok [] (blanks L) else ls (blanks L)).bind fun l r3 => if sgn r3 == [59, 59] then casesF wd ls n (cs ++ [.mk ps l]) (lines ((blanks r3).drop 2)) else (mustP [101, 115, 97, 99] (blanks r3)).bind fun _ r4 => .ok (cs ++ [.mk ps l]) r4)
          (F' := fun L => (if over L then .ok [] (blanks L) else ls' (blanks L)).bind fun l r3 => if sgn r3 == [59, 59] then casesF wd' ls' n' (cs ++ [.mk ps l]) (lines ((blanks r3).drop 2)) else (mustP [101, 115, 97, 99] (blanks r3)).bind fun _ r4 => .ok (cs ++ [.mk ps l]) r4) hx r2 ?_ ?_
        · intro L hL
          have hLl : x = [] ∨ ¬ Lost L := hL.imp id (fun h e => h (.inl e))
          refine ok3_bind0 (G := Out) ?_ (fun l r3 _ hG => tailO l r3 hG) (fun l r3 _ hG => tail l r3 hG)
          refine ok3_ite (over_A hx hL) (fun _ => ok3_rfl (blanks_A hx hLl)) (fun _ => ?_)
          rw [blanks_A hx hLl]
          exact hls _
        · intro L hL
          refine not_bind2 (fun l r3 h1 => tailO l r3 ?_)
          refine ite_lost h1 (fun _ e => ?_) (fun _ e => absurd e (hEl _ (out_idem.2 hL) _ _))
          exact (ok_inj e).2 ▸ out_idem.2 hL
omit hx in
theorem choice_eats (hE : Eats wd) : Eats (choiceP wd ls) := fun r h => not_bind (hE r h)
theorem choice_E (hwd : SimF x D Lost wd wd') (hE : Eats wd) (hls : SimF x D Out ls ls') (hEl : Eats ls) : SimF x D Lost (choiceP wd ls) (choiceP wd' ls') := by
  intro r
  unfold choiceP
  refine ok3_bind0 (hwd _) (fun w r1 _ hG => not_bind (must_eats _ (by simp) _ (lines_out (.inl hG)))) (fun w r1 _ _ => ?_)
  refine lines_E (F := fun L => (mustP [105, 110] L).bind fun _ r2 => (casesF wd ls ((lines r2).length + 1) [] (lines r2)).bind fun cs r3 => .ok (Cmd.mk 8 [] [] [w] [] [] [] cs []) r3)
    (F' := fun L => (mustP [105, 110] L).bind fun _ r2 => (casesF wd' ls' ((lines r2).length + 1) [] (lines r2)).bind fun cs r3 => .ok (Cmd.mk 8 [] [] [w] [] [] [] cs []) r3) hx r1 ?_ ?_
  · intro L hL
    refine ok3_bind0 (must_E hx Lost _ (by simp) L) (fun _ r2 _ hG => not_bind (cases_eats hE _ _ _ (lines_out (.inl hG)))) (fun _ r2 _ _ => ?_)
    refine lines_E (F := fun L => (casesF wd ls (L.length + 1) [] L).bind fun cs r3 => .ok (Cmd.mk 8 [] [] [w] [] [] [] cs []) r3)
      (F' := fun L => (casesF wd' ls' (L.length + 1) [] L).bind fun cs r3 => .ok (Cmd.mk 8 [] [] [w] [] [] [] cs []) r3) hx r2 ?_ ?_
    · intro L hL
      exact ok3_bind (cases_E hx hwd hE hls hEl _ _ _ (by simp) L hL) (fun _ r4 _ _ hG v r' e => (ok_inj e).2 ▸ hG) (fun _ r4 _ _ => ok3_rfl rfl)
    · intro L hL
      exact not_bind (cases_eats hE _ _ _ hL)
  · intro L hL
    exact not_bind (must_eats _ (by simp) _ hL)
end

section
variable {x : Bytes} (hx : Ends x) {D : Prop} {lsd lsd' : Nat → Bytes → Rs (List Lst)}
theorem branch_eats (hEl : ∀ d, Eats (lsd d)) (n d : Nat) : Eats (branchF lsd n d) := by
  intro r h
  cases n with
  | zero => rw [branchF]; exact not_err _ _
  | succ n => rw [branchF]; exact not_bind (hEl _ _ h)
include hx
theorem branch_E (e : Nat) (hD : 0 < e → D) (hls : ∀ d, SimF x D Out (lsd d) (lsd' (d + e))) (hEl : ∀ d, Eats (lsd d)) : ∀ (n n' d : Nat), n ≤ n' → SimF x D Lost (branchF lsd n d) (branchF lsd' n' (d + e))
  | 0, _, _, _ => fun r => ok3_not (by rw [branchF]; exact not_err _ _)
  | _ + 1, 0, _, h => by omega
  | n + 1, n' + 1, d, h => by
    intro r
    rw [branchF, branchF]
    refine ok3_bind0 (hls d r) (fun c r1 _ hG => not_bind (must_eats _ (by simp) _ hG)) (fun c r1 _ _ => ?_)
    refine ok3_bind0 (must_E hx Lost _ (by simp) r1) (fun _ r2 _ hG => not_bind (hEl _ _ (.inl hG))) (fun _ r2 _ _ => ?_)
    refine ok3_bind0 (hls d r2) (fun b r3 _ hG => ?_) (fun b r3 _ hG => ?_)
    · rw [peek_idem2, peek_out hG, if_neg (by decide), if_neg (by decide)]
      exact not_bind (must_eats _ (by simp) _ (out_idem.2 (out_idem.2 hG)))
    · have hl : x = [] ∨ ¬ Lost r3 := hG.imp id (fun h e => h (.inl e))
      have hp := peek_A hx hl
      rw [blanks_A hx hl, peek_idem2]
      have hp2 : peek (blanks r3 ++ x) = peek (r3 ++ x) := by rw [← blanks_A hx hl, peek_idem2]
      rw [hp2]
      refine ok3_ite (by rw [hp.1]) (fun hb => ?_) (fun _ => ok3_ite (by rw [hp.1]) (fun hb => ?_) (fun _ => ?_))
      · have hne : (peek r3).1 ≠ [] := by
          intro e; rw [e] at hb; simp at hb
        rw [hp.2 hne]
        by_cases h16 : d + 1 > 16
        · rw [if_pos h16]
          exact ok3_not (not_fail _ _)
        · rw [if_neg h16]
          by_cases h17 : d + e + 1 > 16
          · rw [if_pos h17]
            exact ok3_deep _ (hD (by omega))
          · rw [if_neg h17, show d + e + 1 = d + 1 + e by omega]
            exact ok3_bind (branch_E e hD hls hEl n n' (d + 1) (by omega) _) (fun _ r4 _ _ hG v r' e => (ok_inj e).2 ▸ hG) (fun _ r4 _ _ => ok3_rfl rfl)
      · have hne : (peek r3).1 ≠ [] := by
          intro e; rw [e] at hb; simp at hb
        rw [hp.2 hne]
        refine ok3_bind0 (hls d _) (fun o r4 _ hG => not_bind (must_eats _ (by simp) _ hG)) (fun o r4 _ _ => ?_)
        exact ok3_bind (must_E hx Lost _ (by simp) r4) (fun _ r4 _ _ hG v r' e => (ok_inj e).2 ▸ hG) (fun _ r4 _ _ => ok3_rfl rfl)
      · have hl2 : x = [] ∨ ¬ Lost (blanks r3) := hl.imp id (fun h e => h (lost_idem.1 e))
        rw [blanks_A hx hl2]
        exact ok3_bind (must_E hx Lost _ (by simp) _) (fun _ r4 _ _ hG v r' e => (ok_inj e).2 ▸ hG) (fun _ r4 _ _ => ok3_rfl rfl)
end
end Go.Proofs.Ytdfnkmiabmjolaa
namespace Go.Proofs.Ytdfnkmiabmjolaa
set_option linter.unusedVariables false
set_option linter.unusedSimpArgs false

theorem linesF_fuel : ∀ (n m : Nat) (r : Bytes), r.length < n → r.length < m → linesF n r = linesF m r
  | 0, _, _, h, _ => by omega
  | _ + 1, 0, _, _, h => by omega
  | n + 1, m + 1, r, h, h' => by
    have hl := blanks_le r
    rw [linesF, linesF]
    cases hb : blanks r with
    | nil => rfl
    | cons c t =>
      rw [hb] at hl
      simp only [List.length_cons] at hl
      dsimp only
      split
      · exact linesF_fuel n m t (by omega) (by omega)
      · rfl
theorem lines_nl (y : Bytes) : lines (10 :: y) = lines y := by
  unfold lines
  rw [linesF, blanks_nl]
  simp only [BEq.rfl, if_true]
  exact linesF_fuel _ _ _ (by simp) (by omega)
theorem lines_blanks (r : Bytes) : lines (blanks r) = lines r := by
  have hl := blanks_le r
  unfold lines
  rw [linesF, linesF, blanks_idem]
  cases hb : blanks r with
  | nil => rfl
  | cons c t =>
    rw [hb] at hl
    simp only [List.length_cons] at hl
    dsimp only
    split
    · exact linesF_fuel _ _ _ (by simp) (by omega)
    · rfl
theorem linesF_gone (y : Bytes) : ∀ (n n' : Nat) (q : Bytes), q.length < n → (q ++ 10 :: y).length < n' → linesF n q = [] → linesF n' (q ++ 10 :: y) = lines y
  | 0, _, _, h, _, _ => by omega
  | _ + 1, 0, _, _, h, _ => by omega
  | n + 1, n' + 1, q, h, h', hn => by
    have hb : blanks q ≠ [92] := by
      intro e
      rw [linesF, e] at hn
      simp at hn
    have e := blanks_app (x := 10 :: y) (.inr ⟨y, rfl⟩) _ q (Nat.le_refl _) hb
    have hl := blanks_le q
    rw [linesF, e]
    rw [linesF] at hn
    cases hbr : blanks q with
    | nil =>
      simp only [List.nil_append, BEq.rfl, if_true]
      exact linesF_fuel _ _ _ (by simp at h'; omega) (by omega)
    | cons c t =>
      rw [hbr] at hl hn
      simp only [List.length_cons] at hl
      simp only [List.cons_append]
      dsimp only at hn
      split at hn
      · rename_i hc
        rw [if_pos hc]
        exact linesF_gone y n n' t (by omega) (by simp at h' ⊢; omega) hn
      · simp at hn
theorem lines_gone (y q : Bytes) (h : lines q = []) : lines (q ++ 10 :: y) = lines y := linesF_gone y _ _ q (by omega) (by omega) h
theorem sgn_nl (y : Bytes) : sgn (10 :: y) = [10] := by
  unfold sgn
  rw [blanks_nl]
  simp [signs, opL, List.isPrefixOf]

section
variable {wd : Bytes → Rs (List Part)} {ls : Bytes → Rs (List Lst)} {br : Bytes → Rs Cmd}
theorem comp_out {r : Bytes} (h : Out r) : compoundP wd ls br r = .ok none (blanks (blanks r)) := by
  unfold compoundP
  rw [sgn_out h, peek_idem2, peek_out h]
  rfl
end
section
variable {x : Bytes} (hx : Ends x) {D : Prop} {wd wd' : Bytes → Rs (List Part)} {ls ls' : Bytes → Rs (List Lst)} {br br' : Bytes → Rs Cmd} {comp comp' : Bytes → Rs (Option Cmd)}
include hx
theorem comp_E (hwd : SimF x D Lost wd wd') (hE : Eats wd) (hls : SimF x D Out ls ls') (hEl : Eats ls) (hbr : SimF x D Lost br br') : SimF x D Lost (compoundP wd ls br) (compoundP wd' ls' br') := by
  intro r
  rcases xcase x (Lost r) with hl | hl
  · have hp := peek_A hx hl
    have hp2 : peek (blanks r ++ x) = peek (r ++ x) := by rw [← blanks_A hx hl, peek_idem2]
    have hl2 : x = [] ∨ ¬ Lost (blanks r) := hl.imp id (fun h e => h (lost_idem.1 e))
    unfold compoundP
    rw [blanks_A hx hl, sgn_is hx hl _ (by simp) (by simp), peek_idem2, hp2]
    have hd : ∀ {s : Bytes}, s ≠ [] → ((peek r).1 == s) = true → (peek (r ++ x)).2 = (peek r).2 ++ x := by
      intro s hs hb
      have : (peek r).1 = s := by simpa using hb
      exact hp.2 (by rw [this]; exact hs)
    refine ok3_ite rfl (fun hb => ?_) (fun _ => ?_)
    · rw [drop_app 1 _ (drop_sgn hb)]
      refine ok3_bind0 (hls _) (fun l r1 _ hG => not_bind (want_eats _ (by simp) _ hG)) (fun l r1 _ _ => ?_)
      exact ok3_bind (want_E hx Lost _ (by simp) r1) (fun _ r2 _ _ hG v r' e => (ok_inj e).2 ▸ hG) (fun _ r2 _ _ => ok3_rfl rfl)
    · dsimp only
      rw [hp.1]
      refine ok3_ite rfl (fun hb => ?_) (fun _ => ok3_ite rfl (fun hb => ?_) (fun _ => ok3_ite rfl (fun hb => ?_) (fun _ => ok3_ite rfl (fun hb => ?_) (fun _ => ok3_ite rfl (fun hb => ?_) (fun _ => ?_)))))
      · rw [hd (by simp) hb]
        refine ok3_bind0 (hls _) (fun l r1 _ hG => not_bind (must_eats _ (by simp) _ hG)) (fun l r1 _ _ => ?_)
        exact ok3_bind (must_E hx Lost _ (by simp) r1) (fun _ r2 _ _ hG v r' e => (ok_inj e).2 ▸ hG) (fun _ r2 _ _ => ok3_rfl rfl)
      · rw [hd (by simp) hb]
        exact ok3_bind (hbr _) (fun _ r2 _ _ hG v r' e => (ok_inj e).2 ▸ hG) (fun _ r2 _ _ => ok3_rfl rfl)
      · have hq : (peek (r ++ x)).2 = (peek r).2 ++ x := by
          simp only [Bool.or_eq_true] at hb
          rcases hb with hb | hb
          · exact hd (by simp) hb
          · exact hd (by simp) hb
        rw [hq]
        refine ok3_bind0 (hls _) (fun l r1 _ hG => not_bind (loop_eats _ hG)) (fun l r1 _ _ => ?_)
        exact ok3_bind (loop_E hx hls hEl r1) (fun _ r2 _ _ hG v r' e => (ok_inj e).2 ▸ hG) (fun _ r2 _ _ => ok3_rfl rfl)
      · rw [hd (by simp) hb]
        exact ok3_bind (each_E hx hwd hE hls hEl _) (fun _ r2 _ _ hG v r' e => (ok_inj e).2 ▸ hG) (fun _ r2 _ _ => ok3_rfl rfl)
      · rw [hd (by simp) hb]
        exact ok3_bind (choice_E hx hwd hE hls hEl _) (fun _ r2 _ _ hG v r' e => (ok_inj e).2 ▸ hG) (fun _ r2 _ _ => ok3_rfl rfl)
      · exact ok3_rfl (blanks_A hx hl2)
  · rw [comp_out (.inl hl)]
    intro v r' e
    obtain ⟨rfl, rfl⟩ := ok_inj e
    by_cases hx0 : x = []
    · subst hx0
      right; left
      rw [List.append_nil, comp_out (.inl hl), List.append_nil]
    · exact .inl ⟨hx0, lost_idem.2 (lost_idem.2 hl)⟩
omit hx in
theorem function_eats (d : Nat) (name : Bytes) : Eats (functionP wd d comp name) := fun r h => not_bind (want_eats _ (by simp) r h)
theorem function_E (hwd : SimF x D Lost wd wd') (hc : SimF x D Lost comp comp') (hcO : ∀ r, Out r → ∀ c r', comp r ≠ .ok (some c) r') (d e : Nat) (hD : 0 < e → D) (name : Bytes) : SimF x D Lost (functionP wd d comp name) (functionP wd' (d + e) comp' name) := by
  intro r
  unfold functionP
  by_cases h16 : d + 1 > 16
  · simp only [if_pos h16]
    exact ok3_not (not_bind2 (fun a r1 _ => not_fail _ _))
  · simp only [if_neg h16]
    by_cases h17 : d + e + 1 > 16
    · simp only [if_pos h17]
      refine ok3_bind (G := fun _ => False) (want_E hx _ _ (by simp) r) (fun a r1 _ _ hG => absurd hG id) (fun a r1 _ _ => ok3_deep _ (hD (by omega)))
    · simp only [if_neg h17]
      have hO : ∀ L, Out L → Not ((comp L).bind fun o r2 => match o with
        | none => failS L 61
        | some c => (redirsF wd (r2.length + 1) [] r2).bind fun rs r3 => .ok (Cmd.mk 9 name [] [] [] [.mk [.mk false [withRedirs c rs]] []] [] [] []) r3) := by
        intro L hL
        refine not_bind2 (fun o r2 h => ?_)
        cases o with
        | none => exact not_fail _ _
        | some c => exact absurd h (hcO L hL _ _)
      refine ok3_bind0 (want_E hx Lost _ (by simp) r) (fun a r1 _ hG => hO _ (lines_out (.inl hG))) (fun a r1 _ _ => ?_)
      refine lines_E (F := fun L => (comp L).bind fun o r2 => match o with
        | none => failS L 61
        | some c => (redirsF wd (r2.length + 1) [] r2).bind fun rs r3 => .ok (Cmd.mk 9 name [] [] [] [.mk [.mk false [withRedirs c rs]] []] [] [] []) r3)
        (F' := fun L => (comp' L).bind fun o r2 => match o with
        | none => failS L 61
        | some c => (redirsF wd' (r2.length + 1) [] r2).bind fun rs r3 => .ok (Cmd.mk 9 name [] [] [] [.mk [.mk false [withRedirs c rs]] []] [] [] []) r3) hx r1 (fun L hL => ?_) hO
      refine ok3_bind (hc L) (fun o r2 _ _ hG v r' e => ?_) (fun o r2 _ _ => ?_)
      · cases o with
        | none => exact absurd e (not_fail _ _ _ _)
        | some c =>
          dsimp only at e
          rw [redirs_out (.inl hG)] at e
          exact (ok_inj e).2 ▸ lost_idem.2 hG
      · cases o with
        | none => exact ok3_not (not_fail _ _)
        | some c => exact ok3_bind (redirs_E hx hwd _ _ _ (by simp) r2) (fun _ r2 _ _ hG v r' e => (ok_inj e).2 ▸ hG) (fun _ r2 _ _ => ok3_rfl rfl)
end

section
variable {x : Bytes} (hx : Ends x) {D : Prop} {cmd cmd' : Bytes → Rs Cmd} {pipe pipe' : Bytes → Rs Pip} {list list' : Bytes → Rs Lst}
theorem pipeF_eats (hE : Eats cmd) (n : Nat) (neg : Bool) (cs : List Cmd) : Eats (pipeF cmd n neg cs) := by
  intro r h
  cases n with
  | zero => rw [pipeF]; exact not_err _ _
  | succ n => rw [pipeF]; exact not_bind (hE _ h)
theorem pipe_eats (hE : Eats cmd) : Eats (pipeP cmd) := by
  intro r h
  unfold pipeP
  rw [peek_out h, if_neg (by decide)]
  exact pipeF_eats hE _ _ _ _ (out_idem.2 h)
theorem listF_eats (hE : Eats pipe) (n : Nat) (ps : List Pip) (os : List Bytes) : Eats (listF pipe n ps os) := by
  intro r h
  cases n with
  | zero => rw [listF]; exact not_err _ _
  | succ n => rw [listF]; exact not_bind (hE _ h)
include hx
theorem pipeF_E (hc : SimF x D Lost cmd cmd') (hE : Eats cmd) : ∀ (n n' : Nat) (neg : Bool) (cs : List Cmd), n ≤ n' → SimF x D Lost (pipeF cmd n neg cs) (pipeF cmd' n' neg cs)
  | 0, _, _, _, _ => fun r => ok3_not (by rw [pipeF]; exact not_err _ _)
  | _ + 1, 0, _, _, h => by omega
  | n + 1, n' + 1, neg, cs, h => by
    intro r
    rw [pipeF, pipeF]
    refine ok3_bind (hc _) (fun c r1 _ _ hG v r' e => ?_) (fun c r1 _ hG => ?_)
    · rw [sgn_lost hG, if_neg (by decide)] at e
      exact (ok_inj e).2 ▸ lost_idem.2 hG
    · rw [blanks_A hx hG]
      refine ok3_ite (sgn_is hx hG _ (by simp) (by simp)) (fun hb => ?_) (fun _ => ok3_rfl rfl)
      rw [drop_app 1 _ (drop_sgn hb)]
      exact lines_E hx _ (fun r _ => pipeF_E hc hE n n' neg _ (by omega) r) (fun r hr => pipeF_eats hE _ _ _ _ hr)
theorem pipe_E (hc : SimF x D Lost cmd cmd') (hE : Eats cmd) : SimF x D Lost (pipeP cmd) (pipeP cmd') := by
  intro r
  rcases xcase x (Out r) with ho | ho
  · have hl : x = [] ∨ ¬ Lost r := ho.imp id (fun h e => h (.inl e))
    have hp := peek_A hx hl
    unfold pipeP
    refine ok3_ite (by rw [hp.1]) (fun hb => ?_) (fun _ => ?_)
    · have hne : (peek r).1 ≠ [] := by
        intro e; rw [e] at hb; simp at hb
      rw [hp.2 hne]
      exact pipeF_E hx hc hE _ _ _ _ (by simp) _
    · rw [blanks_A hx hl]
      exact pipeF_E hx hc hE _ _ _ _ (by simp) _
  · exact ok3_not (pipe_eats hE r ho)
theorem listF_E (hc : SimF x D Lost pipe pipe') (hE : Eats pipe) : ∀ (n n' : Nat) (ps : List Pip) (os : List Bytes), n ≤ n' → SimF x D Lost (listF pipe n ps os) (listF pipe' n' ps os)
  | 0, _, _, _, _ => fun r => ok3_not (by rw [listF]; exact not_err _ _)
  | _ + 1, 0, _, _, h => by omega
  | n + 1, n' + 1, ps, os, h => by
    intro r
    rw [listF, listF]
    refine ok3_bind (hc _) (fun c r1 _ _ hG v r' e => ?_) (fun c r1 _ hG => ?_)
    · rw [sgn_lost hG] at e
      simp only [show (([] : Bytes) == [38, 38]) = false from rfl, show (([] : Bytes) == [124, 124]) = false from rfl, Bool.or_self, Bool.false_eq_true, if_false] at e
      exact (ok_inj e).2 ▸ lost_idem.2 hG
    · rw [blanks_A hx hG]
      refine ok3_ite (by rw [sgn_is hx hG _ (by simp) (by simp), sgn_is hx hG _ (by simp) (by simp)]) (fun hb => ?_) (fun _ => ok3_rfl rfl)
      have hs : sgn (r1 ++ x) = sgn r1 := by
        simp only [Bool.or_eq_true] at hb
        rcases hb with hb | hb
        · rw [show sgn r1 = [38, 38] by simpa using hb]
          have := sgn_is hx hG [38, 38] (by simp) (by simp)
          rw [hb] at this; simpa using this
        · rw [show sgn r1 = [124, 124] by simpa using hb]
          have := sgn_is hx hG [124, 124] (by simp) (by simp)
          rw [hb] at this; simpa using this
      rw [hs, drop_app (sgn r1).length _ (opL_prefix signs _)]
      exact lines_E hx _ (fun r _ => listF_E hc hE n n' _ _ (by omega) r) (fun r hr => listF_eats hE _ _ _ _ hr)
omit hx in
theorem listsF_lost (hE : Eats list) (n : Nat) (first : Bool) (ls : List Lst) {r : Bytes} (h : Lost r) : Not (listsF list n first ls r) := by
  cases n with
  | zero => rw [listsF]; exact not_err _ _
  | succ n =>
    rw [listsF, over_lost h]
    simp only [Bool.not_false, Bool.or_true, if_true]
    refine not_bind (hE _ ?_)
    split
    · exact .inl h
    · exact .inl (lost_idem.2 h)
omit hx in
theorem listsF_nil (n : Nat) (ls : List Lst) {v : List Lst} {r r' : Bytes} (hr : blanks r = []) (h : listsF list n false ls r = .ok v r') : v = ls ∧ r' = [] := by
  cases n with
  | zero => rw [listsF] at h; simp at h
  | succ n =>
    rw [listsF] at h
    have ho : over r = true := by unfold over; rw [hr]; rfl
    rw [ho, hr] at h
    simp only [Bool.not_true, Bool.or_self, Bool.false_eq_true, if_false] at h
    obtain ⟨h1, h2⟩ := ok_inj h
    exact ⟨h1.symm, h2.symm⟩
/-- Lists, with more text behind. -/
theorem listsF_C (hc : SimF x D Lost list list') (hE : Eats list) : ∀ (n n' : Nat) (first : Bool) (ls : List Lst), n ≤ n' → ∀ r, (x = [] ∨ ¬ Out r) → ∀ v r', listsF list n first ls r = .ok v r' →
    ((x = [] ∨ r' ≠ []) ∧ listsF list' n' first ls (r ++ x) = .ok v (r' ++ x)) ∨ (D ∧ ∃ l, listsF list' n' first ls (r ++ x) = .err l 63) ∨ (r' = [] ∧ ∃ y n'', x = 10 :: y ∧ n' ≤ n'' + n ∧ listsF list' n' first ls (r ++ x) = listsF list' n'' false v (lines y))
  | 0, _, _, _, _ => fun r _ v r' e => by rw [listsF] at e; simp at e
  | _ + 1, 0, _, _, h => by omega
  | n + 1, n' + 1, first, ls, h => by
    intro r ho v r' e
    have hl : x = [] ∨ ¬ Lost r := ho.imp id (fun h e => h (.inl e))
    rw [listsF] at e ⊢
    rw [over_A hx ho]
    by_cases hgo : (first || !over r) = true
    · rw [if_pos hgo] at e ⊢
      obtain ⟨a, r1, h1, h2⟩ := bind_ok.1 e
      have harg : (if first = true then r ++ x else blanks (r ++ x)) = (if first = true then r else blanks r) ++ x := by
        split
        · rfl
        · exact blanks_A hx hl
      rw [harg]
      rcases hc _ _ _ h1 with ⟨hx0, hG⟩ | h3 | ⟨hD, l, h3⟩
      · -- lost: nothing follows
        exfalso
        rw [sgn_lost hG] at h2
        simp only [show (([] : Bytes) == [59]) = false from rfl, show (([] : Bytes) == [10]) = false from rfl, Bool.false_eq_true, if_false, over_lost (lost_idem.2 hG)] at h2
        exact not_fail _ _ _ _ h2
      · rw [h3]
        simp only [Rs.bind]
        -- what follows the list
        have step : ∀ q q' : Bytes, (x = [] ∨ Out (lines q) ∨ lines (q ++ x) = lines q ++ x) → q' = q ++ x → listsF list n false (ls ++ [a]) (lines q) = .ok v r' →
            ((x = [] ∨ r' ≠ []) ∧ listsF list' n' false (ls ++ [a]) (lines q') = .ok v (r' ++ x)) ∨ (D ∧ ∃ l, listsF list' n' false (ls ++ [a]) (lines q') = .err l 63) ∨ (r' = [] ∧ ∃ y n'', x = 10 :: y ∧ n' + 1 ≤ n'' + (n + 1) ∧ listsF list' n' false (ls ++ [a]) (lines q') = listsF list' n'' false v (lines y)) := by
          intro q q' hq e' h2
          subst e'
          have hrec : ∀ L, (x = [] ∨ ¬ Out L) → listsF list n false (ls ++ [a]) L = .ok v r' → ((x = [] ∨ r' ≠ []) ∧ listsF list' n' false (ls ++ [a]) (L ++ x) = .ok v (r' ++ x)) ∨ (D ∧ ∃ l, listsF list' n' false (ls ++ [a]) (L ++ x) = .err l 63) ∨ (r' = [] ∧ ∃ y n'', x = 10 :: y ∧ n' + 1 ≤ n'' + (n + 1) ∧ listsF list' n' false (ls ++ [a]) (L ++ x) = listsF list' n'' false v (lines y)) := by
            intro L hL hh
            rcases listsF_C hc hE n n' false (ls ++ [a]) (by omega) L hL v r' hh with h5 | h5 | ⟨h5, y, n'', h6, h7, h8⟩
            · exact .inl h5
            · exact .inr (.inl h5)
            · exact .inr (.inr ⟨h5, y, n'', h6, by omega, h8⟩)
          have hnil : x ≠ [] → lines q = [] → ((x = [] ∨ r' ≠ []) ∧ listsF list' n' false (ls ++ [a]) (lines (q ++ x)) = .ok v (r' ++ x)) ∨ (D ∧ ∃ l, listsF list' n' false (ls ++ [a]) (lines (q ++ x)) = .err l 63) ∨ (r' = [] ∧ ∃ y n'', x = 10 :: y ∧ n' + 1 ≤ n'' + (n + 1) ∧ listsF list' n' false (ls ++ [a]) (lines (q ++ x)) = listsF list' n'' false v (lines y)) := by
            intro hx0 hn
            rcases hx with hx1 | ⟨y, hx1⟩
            · exact absurd hx1 hx0
            · rw [hn] at h2
              obtain ⟨rfl, rfl⟩ := listsF_nil n _ rfl h2
              refine .inr (.inr ⟨rfl, y, n', hx1, by omega, ?_⟩)
              rw [hx1, lines_gone y q hn]
          rcases hq with h5 | h5 | h5
          · subst h5
            simp only [List.append_nil]
            have := hrec (lines q) (.inl rfl) h2
            simpa only [List.append_nil] using this
          · by_cases hx0 : x = []
            · subst hx0
              simp only [List.append_nil]
              have := hrec (lines q) (.inl rfl) h2
              simpa only [List.append_nil] using this
            · rcases h5 with h5 | h5
              · exact absurd h2 (listsF_lost hE _ _ _ h5 _ _)
              · rw [lines_stop] at h5
                exact hnil hx0 h5
          · rcases xcase x (Out (lines q)) with h6 | h6
            · rw [h5]; exact hrec _ h6 h2
            · by_cases hx0 : x = []
              · rw [h5]; exact hrec _ (.inl hx0) h2
              · rcases h6 with h6 | h6
                · exact absurd h2 (listsF_lost hE _ _ _ h6 _ _)
                · rw [lines_stop] at h6
                  exact hnil hx0 h6
        by_cases ho1 : x = [] ∨ ¬ Out r1
        · have hl1 : x = [] ∨ ¬ Lost r1 := ho1.imp id (fun h e => h (.inl e))
          rw [sgn_A hx ho1, blanks_A hx hl1]
          by_cases h5 : (sgn r1 == [59]) = true
          · rw [if_pos h5] at h2 ⊢
            rw [drop_app 1 _ (drop_sgn h5)]
            exact step _ _ (lines_A hx _) rfl h2
          · rw [if_neg h5] at h2 ⊢
            by_cases h6 : (sgn r1 == [10]) = true
            · rw [if_pos h6] at h2 ⊢
              exact step _ _ (lines_A hx _) rfl h2
            · rw [if_neg h6] at h2 ⊢
              have ho2 : x = [] ∨ ¬ Out (blanks r1) := ho1.imp id (fun h e => h (out_idem.1 e))
              have hl2 : x = [] ∨ ¬ Lost (blanks r1) := hl1.imp id (fun h e => h (lost_idem.1 e))
              rw [over_A hx ho2]
              by_cases h7 : over (blanks r1) = true
              · rw [if_pos h7] at h2 ⊢
                rw [blanks_A hx hl2, blanks_idem]
                rw [blanks_idem] at h2
                rcases listsF_C hc hE n n' false (ls ++ [a]) (by omega) _ ho2 v r' h2 with h5 | h5 | ⟨h5, y, n'', h6, h7, h8⟩
                · exact .inl h5
                · exact .inr (.inl h5)
                · exact .inr (.inr ⟨h5, y, n'', h6, by omega, h8⟩)
              · rw [if_neg h7] at h2
                exact absurd h2 (not_fail _ _ _ _)
        · -- the text ends behind the list
          simp only [not_or, Classical.not_not] at ho1
          obtain ⟨hx0, ho1⟩ := ho1
          · rcases ho1 with hG | hG
            · exfalso
              rw [sgn_lost hG] at h2
              simp only [show (([] : Bytes) == [59]) = false from rfl, show (([] : Bytes) == [10]) = false from rfl, Bool.false_eq_true, if_false, over_lost (lost_idem.2 hG)] at h2
              exact not_fail _ _ _ _ h2
            · rcases hx with hx1 | ⟨y, hx1⟩
              · exact absurd hx1 hx0
              · have hb1 : blanks (r1 ++ x) = 10 :: y := by
                  rw [blanks_app (.inr ⟨y, hx1⟩) _ r1 (Nat.le_refl _) (by rw [hG]; simp), hG, hx1]; rfl
                have hs1 : sgn (r1 ++ x) = [10] := by rw [← sgn_idem2, hb1, sgn_nl]
                rw [hs1, hb1]
                simp only [show (([10] : Bytes) == [59]) = false from rfl, BEq.rfl, Bool.false_eq_true, if_false, if_true, lines_nl]
                rw [sgn_nil hG] at h2
                simp only [show (([] : Bytes) == [59]) = false from rfl, show (([] : Bytes) == [10]) = false from rfl, Bool.false_eq_true, if_false] at h2
                rw [show over (blanks r1) = true by unfold over; rw [blanks_idem, hG]; rfl, if_pos rfl, hG] at h2
                obtain ⟨rfl, rfl⟩ := listsF_nil n _ (by rfl) h2
                exact .inr (.inr ⟨rfl, y, n', hx1, by omega, rfl⟩)
      · exact .inr (.inl ⟨hD, l, by rw [h3]; rfl⟩)
    · rw [if_neg hgo] at e ⊢
      obtain ⟨rfl, rfl⟩ := ok_inj e
      rw [blanks_A hx hl]
      exact .inl ⟨ho.imp id (fun h e => h (.inr e)), rfl⟩
theorem listsF_E (hc : SimF x D Lost list list') (hE : Eats list) (n n' : Nat) (h : n ≤ n') (r : Bytes) (ho : x = [] ∨ ¬ Out r) (first : Bool) (ls : List Lst) : Ok3 x D Out (listsF list n first ls r) (listsF list' n' first ls (r ++ x)) := by
  intro v r' e
  rcases listsF_C hx hc hE n n' first ls h r ho v r' e with h1 | h1 | ⟨h1, y, n'', h2, _⟩
  · exact .inr (.inl h1.2)
  · exact .inr (.inr h1)
  · exact .inl ⟨by rw [h2]; simp, .inr (by rw [h1]; rfl)⟩
end
end Go.Proofs.Ytdfnkmiabmjolaa
namespace Go.Proofs.Ytdfnkmiabmjolaa
set_option linter.unusedVariables false
set_option linter.unusedSimpArgs false

/-! A fault has a number. -/
def Nz {α : Type} (X : Rs α) : Prop := ∀ l c, X = .err l c → c ≠ 0
theorem nz_bind {α β : Type} {X : Rs α} {f : α → Bytes → Rs β} (h : Nz X) (hf : ∀ a r, Nz (f a r)) : Nz (X.bind f) := by
  intro l c e
  cases X with
  | ok a r => exact hf a r l c e
  | err l' c' => exact h l c (by simpa [Rs.bind] using e)
theorem nz_ok {α : Type} (v : α) (r : Bytes) : Nz (.ok v r : Rs α) := by intro l c e; simp at e
theorem nz_failP {α : Type} (l : Nat) (e : Int) (h : e ≠ 0) : Nz (failP l e : Rs α) := by
  intro l' c he
  unfold failP at he
  split at he
  · simp at he; omega
  · simp at he; exact he.2 ▸ h
theorem nz_fail {α : Type} (r : Bytes) (e : Int) (h : e ≠ 0) : Nz (failS r e : Rs α) := nz_failP _ _ h
theorem nz_out {α : Type} : Nz (.err 0 (-1) : Rs α) := by intro l c e; simp at e; omega
theorem nz_ite {α : Type} {P : Prop} [Decidable P] {X Y : Rs α} (h1 : Nz X) (h2 : Nz Y) : Nz (if P then X else Y) := by split <;> assumption
theorem nz_must (s r : Bytes) : Nz (mustP s r) := nz_ite (nz_ok _ _) (nz_fail _ _ (by decide))
theorem nz_want (s r : Bytes) : Nz (wantP s r) := nz_ite (nz_ok _ _) (nz_fail _ _ (by decide))
section
variable {wd : Bytes → Rs (List Part)} {fn : Bytes → Bytes → Rs Cmd} {ls : Bytes → Rs (List Lst)} {lsd : Nat → Bytes → Rs (List Lst)} {br : Bytes → Rs Cmd} {comp : Bytes → Rs (Option Cmd)} {cmd : Bytes → Rs Cmd} {pipe : Bytes → Rs Pip} {list : Bytes → Rs Lst}
theorem nz_word (pe : Bytes → Int) (r : Bytes) : Nz (wordP pe r) := by
  unfold wordP
  cases h : scan (blanks r) with
  | err a e => exact nz_failP _ _ (scan_err _ _ _ h)
  | ok l r' =>
    dsimp only
    refine nz_ite (nz_fail _ _ (by decide)) ?_
    split
    · rename_i h2
      exact nz_fail _ _ (by simpa using h2)
    · exact nz_ok _ _
theorem nz_redir (hw : ∀ r, Nz (wd r)) (r : Bytes) : Nz (redirP wd r) := nz_ite (nz_bind (hw _) (fun _ _ => nz_ok _ _)) (nz_ite (nz_bind (hw _) (fun _ _ => nz_ok _ _)) (nz_ok _ _))
theorem nz_redirs (hw : ∀ r, Nz (wd r)) : ∀ (n : Nat) (rs : List Rdr) (r : Bytes), Nz (redirsF wd n rs r)
  | 0, _, _ => nz_out
  | n + 1, rs, r => by
    rw [redirsF]
    refine nz_bind (nz_redir hw r) (fun o r' => ?_)
    cases o with
    | none => exact nz_ok _ _
    | some y => exact nz_redirs hw n _ r'
theorem nz_simple (hw : ∀ r, Nz (wd r)) (hf : ∀ n r, Nz (fn n r)) : ∀ (n : Nat) (xs : List Asg) (ws : List (List Part)) (rs : List Rdr) (r : Bytes), Nz (simpleF wd fn n xs ws rs r)
  | 0, _, _, _, _ => nz_out
  | n + 1, xs, ws, rs, r => by
    rw [simpleF]
    refine nz_bind (nz_redir hw r) (fun o b => ?_)
    cases o with
    | some y => exact nz_simple hw hf n _ _ _ b
    | none =>
      refine nz_ite (nz_fail _ _ (by decide)) (nz_ite (nz_ite (nz_fail _ _ (by decide)) (nz_ok _ _)) (nz_ite (hf _ _) (nz_bind (hw _) (fun l b' => ?_))))
      cases assigned l with
      | none => exact nz_simple hw hf n _ _ _ b'
      | some a =>
        cases ws.isEmpty with
        | true => exact nz_simple hw hf n _ _ _ b'
        | false => exact nz_simple hw hf n _ _ _ b'
theorem nz_loop (hl : ∀ r, Nz (ls r)) (r : Bytes) : Nz (loopP ls r) := nz_bind (nz_must _ _) (fun _ _ => nz_bind (hl _) (fun _ _ => nz_bind (nz_must _ _) (fun _ _ => nz_ok _ _)))
theorem nz_words (hw : ∀ r, Nz (wd r)) : ∀ (n : Nat) (ws : List (List Part)) (r : Bytes), Nz (wordsF wd n ws r)
  | 0, _, _ => nz_out
  | n + 1, ws, r => by rw [wordsF]; exact nz_ite (nz_ok _ _) (nz_bind (hw _) (fun _ _ => nz_words hw n _ _))
theorem nz_each (hw : ∀ r, Nz (wd r)) (hl : ∀ r, Nz (ls r)) (r : Bytes) : Nz (eachP wd ls r) :=
  nz_ite (nz_bind (nz_ite (nz_words hw _ _ _) (nz_ok _ _)) (fun _ _ => nz_bind (nz_loop hl _) (fun _ _ => nz_ok _ _))) (nz_fail _ _ (by decide))
theorem nz_pats (hw : ∀ r, Nz (wd r)) : ∀ (n : Nat) (ws : List (List Part)) (r : Bytes), Nz (patsF wd n ws r)
  | 0, _, _ => nz_out
  | n + 1, ws, r => by rw [patsF]; exact nz_bind (hw _) (fun _ _ => nz_ite (nz_pats hw n _ _) (nz_ok _ _))
theorem nz_cases (hw : ∀ r, Nz (wd r)) (hl : ∀ r, Nz (ls r)) : ∀ (n : Nat) (cs : List Cas) (r : Bytes), Nz (casesF wd ls n cs r)
  | 0, _, _ => nz_out
  | n + 1, cs, r => by
    rw [casesF]
    exact nz_ite (nz_ok _ _) (nz_bind (nz_pats hw _ _ _) (fun _ _ => nz_bind (nz_want _ _) (fun _ _ => nz_bind (nz_ite (nz_ok _ _) (hl _)) (fun _ _ => nz_ite (nz_cases hw hl n _ _) (nz_bind (nz_must _ _) (fun _ _ => nz_ok _ _))))))
theorem nz_choice (hw : ∀ r, Nz (wd r)) (hl : ∀ r, Nz (ls r)) (r : Bytes) : Nz (choiceP wd ls r) :=
  nz_bind (hw _) (fun _ _ => nz_bind (nz_must _ _) (fun _ _ => nz_bind (nz_cases hw hl _ _ _) (fun _ _ => nz_ok _ _)))
theorem nz_branch (hl : ∀ d r, Nz (lsd d r)) : ∀ (n d : Nat) (r : Bytes), Nz (branchF lsd n d r)
  | 0, _, _ => nz_out
  | n + 1, d, r => by
    rw [branchF]
    exact nz_bind (hl _ _) (fun _ _ => nz_bind (nz_must _ _) (fun _ _ => nz_bind (hl _ _) (fun _ _ => nz_ite (nz_ite (nz_fail _ _ (by decide)) (nz_bind (nz_branch hl n _ _) (fun _ _ => nz_ok _ _)))
      (nz_ite (nz_bind (hl _ _) (fun _ _ => nz_bind (nz_must _ _) (fun _ _ => nz_ok _ _))) (nz_bind (nz_must _ _) (fun _ _ => nz_ok _ _))))))
theorem nz_comp (hw : ∀ r, Nz (wd r)) (hl : ∀ r, Nz (ls r)) (hb : ∀ r, Nz (br r)) (r : Bytes) : Nz (compoundP wd ls br r) :=
  nz_ite (nz_bind (hl _) (fun _ _ => nz_bind (nz_want _ _) (fun _ _ => nz_ok _ _))) (nz_ite (nz_bind (hl _) (fun _ _ => nz_bind (nz_must _ _) (fun _ _ => nz_ok _ _))) (nz_ite (nz_bind (hb _) (fun _ _ => nz_ok _ _))
    (nz_ite (nz_bind (hl _) (fun _ _ => nz_bind (nz_loop hl _) (fun _ _ => nz_ok _ _))) (nz_ite (nz_bind (nz_each hw hl _) (fun _ _ => nz_ok _ _)) (nz_ite (nz_bind (nz_choice hw hl _) (fun _ _ => nz_ok _ _)) (nz_ok _ _))))))
theorem nz_function (hw : ∀ r, Nz (wd r)) (hc : ∀ r, Nz (comp r)) (d : Nat) (name r : Bytes) : Nz (functionP wd d comp name r) := by
  unfold functionP
  refine nz_bind (nz_want _ _) (fun _ r1 => nz_ite (nz_fail _ _ (by decide)) (nz_bind (hc _) (fun o r2 => ?_)))
  cases o with
  | none => exact nz_fail _ _ (by decide)
  | some c => exact nz_bind (nz_redirs hw _ _ _) (fun _ _ => nz_ok _ _)
theorem nz_pipeF (hc : ∀ r, Nz (cmd r)) : ∀ (n : Nat) (neg : Bool) (cs : List Cmd) (r : Bytes), Nz (pipeF cmd n neg cs r)
  | 0, _, _, _ => nz_out
  | n + 1, neg, cs, r => by rw [pipeF]; exact nz_bind (hc _) (fun _ _ => nz_ite (nz_pipeF hc n _ _ _) (nz_ok _ _))
theorem nz_pipe (hc : ∀ r, Nz (cmd r)) (r : Bytes) : Nz (pipeP cmd r) := nz_ite (nz_pipeF hc _ _ _ _) (nz_pipeF hc _ _ _ _)
theorem nz_listF (hp : ∀ r, Nz (pipe r)) : ∀ (n : Nat) (ps : List Pip) (os : List Bytes) (r : Bytes), Nz (listF pipe n ps os r)
  | 0, _, _, _ => nz_out
  | n + 1, ps, os, r => by rw [listF]; exact nz_bind (hp _) (fun _ _ => nz_ite (nz_listF hp n _ _ _) (nz_ok _ _))
theorem nz_listsF (hl : ∀ r, Nz (list r)) : ∀ (n : Nat) (first : Bool) (ls : List Lst) (r : Bytes), Nz (listsF list n first ls r)
  | 0, _, _, _ => nz_out
  | n + 1, first, ls, r => by
    rw [listsF]
    exact nz_ite (nz_bind (hl _) (fun _ _ => nz_ite (nz_listsF hl n _ _ _) (nz_ite (nz_listsF hl n _ _ _) (nz_ite (nz_listsF hl n _ _ _) (nz_fail _ _ (by decide)))))) (nz_ok _ _)
theorem nz_parse (hl : ∀ r, Nz (ls r)) (s : Bytes) : Nz (parseG ls s) := nz_bind (nz_ite (nz_ok _ _) (hl _)) (fun _ _ => nz_ite (nz_ok _ _) (nz_fail _ _ (by decide)))
end
structure NzAll (n : Nat) : Prop where
  lists : ∀ d r, Nz (lists n d r)
  command : ∀ d r, Nz (command n d r)
  compound : ∀ d r, Nz (compound n d r)
  word : ∀ d r, Nz (wordS n d r)
  parse : ∀ d r, Nz (parseF n d r)
theorem nz_all : ∀ n, NzAll n
  | 0 => ⟨fun d r => by rw [lists]; exact nz_out, fun d r => by rw [command]; exact nz_out, fun d r => by rw [compound]; exact nz_out, fun d r => by rw [wordS]; exact nz_out, fun d r => by rw [parseF]; exact nz_out⟩
  | n + 1 => by
    obtain ⟨h1, h2, h3, h4, h5⟩ := nz_all n
    refine ⟨fun d r => ?_, fun d r => ?_, fun d r => ?_, fun d r => ?_, fun d r => ?_⟩
    · rw [lists]; exact nz_ite (nz_fail _ _ (by decide)) (nz_listsF (fun r => nz_listF (fun r => nz_pipe (h2 _) r) _ _ _ r) _ _ _ _)
    · rw [command]
      refine nz_bind (h3 _ _) (fun o r1 => ?_)
      cases o with
      | some c => exact nz_bind (nz_redirs (h4 _) _ _ _) (fun _ _ => nz_ok _ _)
      | none => exact nz_simple (h4 _) (fun n r => nz_function (h4 _) (h3 _) _ _ _) _ _ _ _ _
    · rw [compound]; exact nz_comp (h4 _) (h1 _) (nz_branch (fun d r => h1 d r) _ _) r
    · rw [wordS]; exact nz_word _ _
    · rw [parseF]; exact nz_parse (h1 _) _
theorem code_zero {n d : Nat} {t : Bytes} (h : codeOf (parseF n d t) = 0) : ∃ l r, parseF n d t = .ok l r := by
  cases hp : parseF n d t with
  | ok l r => exact ⟨l, r, rfl⟩
  | err l c =>
    rw [hp] at h
    exact absurd h ((nz_all n).parse d t l c hp)

/-! Two runs. -/
section
variable {x : Bytes} (hx : Ends x) {D : Prop} {pe pe' : Bytes → Int}
theorem word_eats (pe : Bytes → Int) : Eats (wordP pe) := by
  rintro r (h | h)
  · unfold wordP
    cases hs : scan (blanks r) with
    | ok l r' => exact absurd hs (h l r')
    | err a e =>
      intro v r'
      unfold failP
      dsimp only
      split <;> simp
  · unfold wordP
    rw [h, scan_nil]
    exact not_fail _ _
mutual
theorem insP_63 (hpe : ∀ t, pe t = 0 → pe' t = 0 ∨ (D ∧ pe' t = 63)) : ∀ p : Part, insP pe p = 0 → insP pe' p = 0 ∨ (D ∧ insP pe' p = 63)
  | .mk k q t o w, h => by
    rw [insP] at h ⊢
    by_cases hk : (k == 3 && pe t != 0) = true
    · rw [if_pos hk] at h
      simp [h] at hk
    · rw [if_neg hk] at h
      by_cases hk' : (k == 3 && pe' t != 0) = true
      · rw [if_pos hk']
        simp only [Bool.and_eq_true, beq_iff_eq, bne_iff_ne, not_and, Classical.not_not] at hk hk'
        exact (hpe t (hk hk'.1))
      · rw [if_neg hk']
        exact insPs_63 hpe w h
theorem insPs_63 (hpe : ∀ t, pe t = 0 → pe' t = 0 ∨ (D ∧ pe' t = 63)) : ∀ l : List Part, insPs pe l = 0 → insPs pe' l = 0 ∨ (D ∧ insPs pe' l = 63)
  | [], _ => .inl rfl
  | p :: l, h => by
    rw [insPs] at h ⊢
    by_cases h1 : insP pe p = 0
    · simp only [h1, bne_self_eq_false, Bool.false_eq_true, if_false] at h
      rcases insP_63 hpe p h1 with h2 | ⟨hD, h2⟩
      · simp only [h2, bne_self_eq_false, Bool.false_eq_true, if_false]
        exact insPs_63 hpe l h
      · right
        rw [h2]
        exact ⟨hD, rfl⟩
    · have : (insP pe p != 0) = true := by simpa using h1
      rw [if_pos this] at h
      exact absurd h h1
end
include hx
theorem word_E (hpe : ∀ t, pe t = 0 → pe' t = 0 ∨ (D ∧ pe' t = 63)) : SimF x D Lost (wordP pe) (wordP pe') := by
  intro r
  rcases xcase x (Out r) with h | h
  · have hl : x = [] ∨ ¬ Lost r := h.imp id (fun h e => h (.inl e))
    unfold wordP
    cases hs : scan (blanks r) with
    | err a e =>
      refine ok3_not ?_
      intro v r'
      unfold failP
      dsimp only
      split <;> simp
    | ok l r' =>
      rw [scan_A hx hs]
      dsimp only
      rw [blanks_A hx hl]
      refine ok3_ite (by have hlen : ((r' ++ x).length == (blanks r ++ x).length) = (r'.length == (blanks r).length) := by rw [Bool.eq_iff_iff]; simp
                         rw [hlen]) (fun _ => ok3_not (not_fail _ _)) (fun _ => ?_)
      by_cases h1 : insPs pe l = 0
      · rw [h1]
        simp only [bne_self_eq_false, Bool.false_eq_true, if_false]
        rcases insPs_63 hpe l h1 with h2 | ⟨hD, h2⟩
        · rw [h2]
          simp only [bne_self_eq_false, Bool.false_eq_true, if_false]
          exact ok3_rfl rfl
        · rw [h2]
          exact (ok3_deep _ hD : Ok3 x D Lost _ (failS (blanks r ++ x) 63))
      · rw [if_pos (by simpa using h1)]
        exact ok3_not (not_fail _ _)
  · exact ok3_not (word_eats pe r h)
end

structure EatAll (n : Nat) : Prop where
  lists : ∀ d, Eats (lists n d)
  command : ∀ d, Eats (command n d)
  compound : ∀ d r, Out r → ∀ c r', compound n d r ≠ .ok (some c) r'
  word : ∀ d, Eats (wordS n d)
theorem eat_all : ∀ n, EatAll n
  | 0 => ⟨fun d r _ => by rw [lists]; exact not_err _ _, fun d r _ => by rw [command]; exact not_err _ _, fun d r _ c r' => by rw [compound]; simp, fun d r _ => by rw [wordS]; exact not_err _ _⟩
  | n + 1 => by
    obtain ⟨h1, h2, h3, h4⟩ := eat_all n
    refine ⟨fun d r h => ?_, fun d r h => ?_, fun d r h c r' => ?_, fun d r h => ?_⟩
    · rw [lists]
      split
      · exact not_fail _ _
      · rw [listsF]
        simp only [Bool.true_or, if_true]
        exact not_bind (listF_eats (pipe_eats (h2 _)) _ _ _ _ (lines_out h))
    · rw [command]
      refine not_bind2 (fun o r1 e => ?_)
      cases o with
      | some c => exact absurd e (h3 d r h c r1)
      | none =>
        cases n with
        | zero => rw [compound] at e; simp at e
        | succ n =>
          rw [compound, comp_out h] at e
          obtain ⟨_, rfl⟩ := ok_inj e
          exact simple_eats (h4 d) _ _ (out_idem.2 (out_idem.2 h))
    · rw [compound, comp_out h]
      simp
    · rw [wordS]; exact word_eats _ r h
structure SimAll (n : Nat) : Prop where
  lists : ∀ (n' d e : Nat) (x : Bytes) (D : Prop), n ≤ n' → Ends x → (0 < e → D) → SimF x D Out (lists n d) (lists n' (d + e))
  command : ∀ (n' d e : Nat) (x : Bytes) (D : Prop), n ≤ n' → Ends x → (0 < e → D) → SimF x D Lost (command n d) (command n' (d + e))
  compound : ∀ (n' d e : Nat) (x : Bytes) (D : Prop), n ≤ n' → Ends x → (0 < e → D) → SimF x D Lost (compound n d) (compound n' (d + e))
  word : ∀ (n' d e : Nat) (x : Bytes) (D : Prop), n ≤ n' → Ends x → (0 < e → D) → SimF x D Lost (wordS n d) (wordS n' (d + e))
  parse : ∀ (n' d e : Nat) (D : Prop), n ≤ n' → (0 < e → D) → SimF [] D Lost (parseF n d) (parseF n' (d + e))
theorem sim_all : ∀ n, SimAll n
  | 0 => ⟨fun n' d e x D _ _ _ r => ok3_not (by rw [lists]; exact not_err _ _), fun n' d e x D _ _ _ r => ok3_not (by rw [command]; exact not_err _ _), fun n' d e x D _ _ _ r => ok3_not (by rw [compound]; exact not_err _ _),
      fun n' d e x D _ _ _ r => ok3_not (by rw [wordS]; exact not_err _ _), fun n' d e D _ _ r => ok3_not (by rw [parseF]; exact not_err _ _)⟩
  | n + 1 => by
    obtain ⟨s1, s2, s3, s4, s5⟩ := sim_all n
    obtain ⟨h1, h2, h3, h4⟩ := eat_all n
    refine ⟨fun n' d e x D hn hx hD r => ?_, fun n' d e x D hn hx hD r => ?_, fun n' d e x D hn hx hD r => ?_, fun n' d e x D hn hx hD r => ?_, fun n' d e D hn hD r => ?_⟩
    · obtain ⟨m, rfl⟩ : ∃ m, n' = m + 1 := ⟨n' - 1, by omega⟩
      rw [lists, lists]
      by_cases h16 : d + 1 > 16
      · rw [if_pos h16]; exact ok3_not (not_fail _ _)
      · rw [if_neg h16]
        by_cases h17 : d + e + 1 > 16
        · rw [if_pos h17]; exact ok3_deep _ (hD (by omega))
        · rw [if_neg h17, show d + e + 1 = d + 1 + e by omega]
          have hC := s2 m (d + 1) e x D (by omega) hx hD
          have hE := h2 (d + 1)
          have hL : ∀ k, SimF x D Lost (listF (pipeP (command n (d + 1))) k [] []) (listF (pipeP (command m (d + 1 + e))) (k + x.length) [] []) := fun k => listF_E hx (pipe_E hx hC hE) (pipe_eats hE) _ _ _ _ (by omega)
          have hEl := fun k => listF_eats (pipe_eats hE) k [] []
          refine lines_E (F := fun L => listsF (listF (pipeP (command n (d + 1))) (r.length + 1) [] []) (r.length + 1) true [] L)
            (F' := fun L => listsF (listF (pipeP (command m (d + 1 + e))) ((r ++ x).length + 1) [] []) ((r ++ x).length + 1) true [] L) hx r (fun L hL2 => ?_) (fun L hL2 => ?_)
          · refine listsF_E hx ?_ (hEl _) _ _ (by simp) L hL2 true []
            have := hL (r.length + 1)
            rwa [show r.length + 1 + x.length = (r ++ x).length + 1 by simp; omega] at this
          · rw [listsF]
            simp only [Bool.true_or, if_true]
            exact not_bind (hEl _ _ hL2)
    · obtain ⟨m, rfl⟩ : ∃ m, n' = m + 1 := ⟨n' - 1, by omega⟩
      rw [command, command]
      have hW := s4 m d e x D (by omega) hx hD
      have hW1 := s4 m (d + 1) e x D (by omega) hx hD
      have hC1 := s3 m (d + 1) e x D (by omega) hx hD
      refine ok3_bind (s3 m d e x D (by omega) hx hD r) (fun o r1 _ _ hG v r' e => ?_) (fun o r1 _ _ => ?_)
      · cases o with
        | some c =>
          dsimp only at e
          rw [redirs_out (.inl hG)] at e
          exact (ok_inj e).2 ▸ lost_idem.2 hG
        | none => exact absurd e (simple_lost (h4 d) _ _ _ _ hG _ _)
      · cases o with
        | some c => exact ok3_bind (redirs_E hx hW _ _ _ (by simp) r1) (fun _ r2 _ _ hG v r' e => (ok_inj e).2 ▸ hG) (fun _ r2 _ _ => ok3_rfl rfl)
        | none =>
          refine simple_E hx hW (h4 d) (fun name => ?_) _ _ _ _ _ (by simp) r1
          rw [show d + e + 1 = d + 1 + e by omega]
          exact function_E hx hW1 hC1 (h3 (d + 1)) d e hD name
    · obtain ⟨m, rfl⟩ : ∃ m, n' = m + 1 := ⟨n' - 1, by omega⟩
      rw [compound, compound]
      exact comp_E hx (s4 m d e x D (by omega) hx hD) (h4 d) (s1 m d e x D (by omega) hx hD) (h1 d) (branch_E hx e hD (fun d => s1 m d e x D (by omega) hx hD) h1 _ _ d (by simp)) r
    · obtain ⟨m, rfl⟩ : ∃ m, n' = m + 1 := ⟨n' - 1, by omega⟩
      rw [wordS, wordS]
      refine word_E hx (fun t ht => ?_) r
      obtain ⟨l, r1, hp⟩ := code_zero ht
      rcases s5 m (d + 1) e D (by omega) hD t l r1 hp with ⟨h5, _⟩ | h5 | ⟨hD5, k, h5⟩
      · exact absurd rfl h5
      · left
        rw [List.append_nil] at h5
        rw [show d + e + 1 = d + 1 + e by omega, h5]; rfl
      · right
        rw [List.append_nil] at h5
        rw [show d + e + 1 = d + 1 + e by omega, h5]; exact ⟨hD5, rfl⟩
    · obtain ⟨m, rfl⟩ : ∃ m, n' = m + 1 := ⟨n' - 1, by omega⟩
      rw [parseF, parseF, List.append_nil]
      unfold parseG
      have hx : Ends [] := .inl rfl
      refine ok3_bind (G := fun _ => False) ?_ (fun a r1 _ _ hG => absurd hG id) (fun a r1 _ _ => ?_)
      · refine ok3_ite rfl (fun _ => ok3_rfl rfl) (fun _ => ?_)
        have := s1 m d e [] D (by omega) hx hD (lines r)
        rw [List.append_nil] at this
        intro v r' e
        rcases this v r' e with ⟨h5, _⟩ | h5 | h5
        · exact absurd rfl h5
        · exact .inr (.inl h5)
        · exact .inr (.inr h5)
      · rw [List.append_nil]
        exact ok3_ite rfl (fun _ => ok3_rfl rfl) (fun _ => ok3_not (not_fail _ _))
end Go.Proofs.Ytdfnkmiabmjolaa
namespace Go.Proofs.Ytdfnkmiabmjolaa
set_option linter.unusedVariables false
set_option linter.unusedSimpArgs false

theorem linesF_head : ∀ (n : Nat) (r : Bytes), r.length < n → ∀ c t, linesF n r = c :: t → c ≠ 10
  | 0, _, h, _, _, _ => by omega
  | n + 1, r, h, c, t, e => by
    have hl := blanks_le r
    rw [linesF] at e
    cases hb : blanks r with
    | nil => rw [hb] at e; simp at e
    | cons d u =>
      rw [hb] at e hl
      simp only [List.length_cons] at hl
      dsimp only at e
      split at e
      · exact linesF_head n u (by omega) c t e
      · rename_i hd
        simp only [List.cons.injEq] at e
        rw [← e.1]; simpa using hd
theorem lines_head (r : Bytes) {c : UInt8} {t : Bytes} (e : lines r = c :: t) : c ≠ 10 := linesF_head _ r (by omega) c t e
theorem lines_fix {r : Bytes} (h1 : blanks r = r) (h2 : ∀ c t, r = c :: t → c ≠ 10) : lines r = r := by
  unfold lines
  rw [linesF, h1]
  cases r with
  | nil => rfl
  | cons c t =>
    have := h2 c t rfl
    dsimp only
    rw [if_neg (by simpa using this)]
theorem lines_idem (r : Bytes) : lines (lines r) = lines r := lines_fix (lines_stop r) (fun c t e => lines_head r e)

/-! where lists end, no command begins -/
theorem over_fd {r : Bytes} (h : over r = true) : fdP (blanks r) = (-1, blanks r) := by
  cases hb : blanks r with
  | nil => rfl
  | cons c t =>
    cases t with
    | nil => rfl
    | cons d t =>
      unfold fdP
      dsimp only
      split
      · rename_i hd
        exfalso
        simp only [Bool.and_eq_true, Bool.or_eq_true, beq_iff_eq] at hd
        have hm : metaB d = true := by rcases hd.2 with rfl | rfl <;> decide
        have hs := scan_digit c d t hd.1 hm
        have hp : peek r = ([c], d :: t) := by
          unfold peek
          rw [hb, hs]
          rfl
        have hne : ∀ k : UInt8, (k.toNat < 48 ∨ 57 < k.toNat) → (c == k) = false := by
          intro k hk
          have h48 : (48 : Int) ≤ (c.toNat : Int) ∧ (c.toNat : Int) ≤ 57 := by simpa [digit, digitB] using hd.1
          have : c ≠ k := by rintro rfl; omega
          simpa using this
        have hg : sgn r = [] := by
          unfold sgn
          rw [hb]
          have hh : ∀ a : UInt8, (c == a) = false → (a == c) = false := by
            intro a; simp; intro h e; exact h e.symm
          simp only [signs, opL, List.isPrefixOf, hh _ (hne 38 (by decide)), hh _ (hne 124 (by decide)), hh _ (hne 59 (by decide)), hh _ (hne 62 (by decide)), hh _ (hne 60 (by decide)), hh _ (hne 10 (by decide)), hh _ (hne 40 (by decide)), hh _ (hne 41 (by decide)), Bool.false_and, Bool.false_eq_true, if_false]
        unfold over at h
        rw [hp, hg, hb] at h
        have hc : closing [c] = false := by
          unfold closing closers
          simp only [List.contains_cons, List.contains_nil, Bool.or_false]
          have e1 : ∀ k : UInt8, (k.toNat < 48 ∨ 57 < k.toNat) → (([c] : Bytes) == [k]) = false := by
            intro k hk; have := hne k hk; simpa using this
          rw [e1 125 (by decide)]
          simp
        rw [hc] at h
        simp at h
      · rfl
theorem over_sgn {r : Bytes} (h : over r = true) : sgn r = [] ∨ sgn r = [41] ∨ sgn r = [59, 59] := by
  cases hb : blanks r with
  | nil => exact .inl (sgn_nil hb)
  | cons c t =>
    by_cases hm : metaB c = true
    · have hp : peek r = ([], []) := by
        unfold peek; rw [hb, scan_meta c t hm]
      unfold over at h
      rw [hp, hb] at h
      simp only [List.isEmpty_cons, show closing [] = false from by decide, Bool.or_self, Bool.false_or, Bool.or_eq_true, beq_iff_eq] at h
      exact .inr h
    · left
      have hm' : metaB c = false := by simpa using hm
      unfold sgn
      rw [hb]
      simp only [metaB, metas, List.contains_cons, Bool.or_eq_false_iff] at hm'
      have hh : ∀ a : UInt8, (c == a) = false → (a == c) = false := by
        intro a; simp; intro h e; exact h e.symm
      simp only [signs, opL, List.isPrefixOf, hh _ hm'.2.2.2.1, hh _ hm'.2.2.1, hh _ hm'.2.2.2.2.1, hh _ hm'.2.2.2.2.2.1, hh _ hm'.2.2.2.2.2.2.1, hh _ hm'.2.2.2.2.2.2.2.1, hh _ hm'.2.2.2.2.2.2.2.2.1, hh _ hm'.2.2.2.2.2.2.2.2.2.1, Bool.false_and, Bool.false_eq_true, if_false]
theorem over_peek {r : Bytes} (h : over r = true) : (peek r).1 = [] ∨ closing (peek r).1 = true := by
  cases hb : blanks r with
  | nil => left; rw [peek_out (.inr hb)]
  | cons c t =>
    by_cases hm : metaB c = true
    · left
      unfold peek; rw [hb, scan_meta c t hm]
    · have hs := over_sgn h
      unfold over at h
      rw [hb] at h
      have hm' : metaB c = false := by simpa using hm
      by_cases h3 : closing (peek r).1 = true
      · exact .inr h3
      · exfalso
        have hg : sgn r = [] := by
          unfold sgn
          rw [hb]
          simp only [metaB, metas, List.contains_cons, Bool.or_eq_false_iff] at hm'
          have hh : ∀ a : UInt8, (c == a) = false → (a == c) = false := by
            intro a; simp; intro h e; exact h e.symm
          simp only [signs, opL, List.isPrefixOf, hh _ hm'.2.2.2.1, hh _ hm'.2.2.1, hh _ hm'.2.2.2.2.1, hh _ hm'.2.2.2.2.2.1, hh _ hm'.2.2.2.2.2.2.1, hh _ hm'.2.2.2.2.2.2.2.1, hh _ hm'.2.2.2.2.2.2.2.2.1, hh _ hm'.2.2.2.2.2.2.2.2.2.1, Bool.false_and, Bool.false_eq_true, if_false]
        rw [hg] at h
        simp [h3] at h
theorem over_idem (r : Bytes) : over (blanks r) = over r := by unfold over; rw [blanks_idem, peek_idem2, sgn_idem2]
theorem redir_over {wd : Bytes → Rs (List Part)} {r : Bytes} (h : over r = true) : redirP wd r = .ok none (blanks r) := by
  unfold redirP
  rw [over_fd h]
  dsimp only
  rw [sgn_idem2]
  rcases over_sgn h with e | e | e <;> rw [e] <;> rfl
theorem simple_over {wd : Bytes → Rs (List Part)} {fn : Bytes → Bytes → Rs Cmd} (n : Nat) {r : Bytes} (h : over r = true) : Not (simpleF wd fn n [] [] [] r) := by
  cases n with
  | zero => rw [simpleF]; exact not_err _ _
  | succ n =>
    rw [simpleF, redir_over h]
    simp only [Rs.bind, peek_idem2, sgn_idem2, blanks_idem, List.length_nil, Nat.add_zero, BEq.rfl, Bool.true_and, if_true]
    by_cases h1 : closing (peek r).1 = true
    · rw [if_pos h1]; exact not_fail _ _
    · rw [if_neg h1, if_pos]
      · exact not_fail _ _
      · unfold over at h
        simp only [Bool.or_eq_true, beq_iff_eq] at h
        simp only [Bool.or_eq_true, bne_iff_ne]
        have h' : (blanks r).isEmpty = true ∨ sgn r = [41] ∨ sgn r = [59, 59] := by
          rcases h with h | h
          · rcases h with h | h
            · rcases h with h | h
              · exact .inl h
              · exact absurd h h1
            · exact .inr (.inl h)
          · exact .inr (.inr h)
        rcases h' with h | h | h
        · exact .inr h
        · left; rw [h]; simp
        · left; rw [h]; simp
theorem comp_over {wd : Bytes → Rs (List Part)} {ls : Bytes → Rs (List Lst)} {br : Bytes → Rs Cmd} {r : Bytes} (h : over r = true) : compoundP wd ls br r = .ok none (blanks (blanks r)) := by
  unfold compoundP
  rw [peek_idem2]
  have h1 : (sgn r == [40]) = false := by rcases over_sgn h with e | e | e <;> rw [e] <;> rfl
  rw [h1]
  simp only [Bool.false_eq_true, if_false]
  rcases over_peek h with e | e
  · rw [e]; rfl
  · have : (peek r).1 ∈ closers := by simpa [closing] using e
    simp only [closers, List.mem_cons, List.not_mem_nil, or_false] at this
    rcases this with e | e | e | e | e | e | e | e <;> rw [e] <;> rfl
theorem cmd_over (n d : Nat) {r : Bytes} (h : over r = true) : Not (command n d r) := by
  cases n with
  | zero => rw [command]; exact not_err _ _
  | succ n =>
    rw [command]
    cases n with
    | zero => rw [compound]; exact not_bind (not_err _ _)
    | succ n =>
      rw [compound, comp_over h]
      simp only [Rs.bind]
      exact simple_over _ (by rw [over_idem, over_idem]; exact h)
theorem pipe_over {cmd : Bytes → Rs Cmd} (hc : ∀ r, over r = true → Not (cmd r)) {r : Bytes} (h : over r = true) : Not (pipeP cmd r) := by
  unfold pipeP
  rw [if_neg]
  · rw [pipeF]; exact not_bind (hc _ (by rw [over_idem]; exact h))
  · rcases over_peek h with e | e
    · rw [e]; decide
    · intro h2
      rw [show (peek r).1 = [33] by simpa using h2] at e
      exact absurd e (by decide)
theorem list_over {pipe : Bytes → Rs Pip} (hc : ∀ r, over r = true → Not (pipe r)) (n : Nat) {r : Bytes} (h : over r = true) : Not (listF pipe n [] [] r) := by
  cases n with
  | zero => rw [listF]; exact not_err _ _
  | succ n => rw [listF]; exact not_bind (hc _ h)

/-! lists ahead of lists -/
theorem listsF_acc {list : Bytes → Rs Lst} : ∀ (n : Nat) (first : Bool) (ls l : List Lst) (r r' : Bytes) (v : List Lst), listsF list n first l r = .ok v r' → listsF list n first (ls ++ l) r = .ok (ls ++ v) r'
  | 0, _, _, _, _, _, _, h => by rw [listsF] at h; simp at h
  | n + 1, first, ls, l, r, r', v, h => by
    rw [listsF] at h ⊢
    have IH := fun l r' v r h => listsF_acc (list := list) n false ls l r r' v h
    split at h
    · rename_i h1
      rw [if_pos h1]
      obtain ⟨a, r1, h2, h3⟩ := bind_ok.1 h
      rw [h2]
      simp only [Rs.bind, List.append_assoc]
      split at h3
      · rename_i h4; rw [if_pos h4]; exact IH _ _ _ _ h3
      · rename_i h4
        rw [if_neg h4]
        split at h3
        · rename_i h5; rw [if_pos h5]; exact IH _ _ _ _ h3
        · rename_i h5
          rw [if_neg h5]
          split at h3
          · rename_i h6; rw [if_pos h6]; exact IH _ _ _ _ h3
          · exact absurd h3 (not_fail _ _ _ _)
    · rename_i h1
      rw [if_neg h1]
      obtain ⟨rfl, rfl⟩ := ok_inj h
      rfl
theorem listsF_first {list : Bytes → Rs Lst} (hO : ∀ r, over r = true → Not (list r)) (n : Nat) (l v : List Lst) (r r' : Bytes) (hb : blanks r = r) (h : listsF list n true l r = .ok v r') : listsF list n false l r = .ok v r' := by
  cases n with
  | zero => rw [listsF] at h; simp at h
  | succ n =>
    rw [listsF] at h ⊢
    simp only [Bool.true_or, if_true] at h
    have : over r = false := by
      cases ho : over r with
      | false => rfl
      | true =>
        obtain ⟨a, r1, h2, _⟩ := bind_ok.1 h
        exact absurd h2 (hO r ho _ _)
    rw [this]
    simp only [Bool.not_false, Bool.or_true, if_true, Bool.false_eq_true, if_false, hb]
    exact h
/-- The list of lists at a depth. -/
def lstAt (n d k : Nat) : Bytes → Rs Lst := listF (pipeP (command n (d + 1))) k [] []
theorem lstAt_E {x : Bytes} (hx : Ends x) {D : Prop} {n n' d e k k' : Nat} (hn : n ≤ n') (hk : k ≤ k') (hD : 0 < e → D) : SimF x D Lost (lstAt n d k) (lstAt n' (d + e) k') := by
  have := (sim_all n).command n' (d + 1) e x D hn hx hD
  rw [show d + 1 + e = d + e + 1 by omega] at this
  exact listF_E hx (pipe_E hx this ((eat_all n).command _)) (pipe_eats ((eat_all n).command _)) k k' [] [] hk
theorem lstAt_eats (n d k : Nat) : Eats (lstAt n d k) := listF_eats (pipe_eats ((eat_all n).command _)) k [] []
theorem lstAt_over (n d k : Nat) (r : Bytes) (h : over r = true) : Not (lstAt n d k r) := list_over (fun r h => pipe_over (fun r h => cmd_over _ _ h) h) k h
theorem lists_at {n d : Nat} (r : Bytes) (h : d + 1 ≤ 16) : lists (n + 1) d r = listsF (lstAt n d (r.length + 1)) (r.length + 1) true [] (lines r) := by
  rw [lists, if_neg (by omega)]; rfl
theorem lists_ok {n d : Nat} {r : Bytes} {v : List Lst} {r' : Bytes} (h : lists n d r = .ok v r') : ∃ m, n = m + 1 ∧ d + 1 ≤ 16 ∧ listsF (lstAt m d (r.length + 1)) (r.length + 1) true [] (lines r) = .ok v r' ∧ ¬ Out (lines r) := by
  cases n with
  | zero => rw [lists] at h; simp at h
  | succ m =>
    by_cases h16 : d + 1 ≤ 16
    · rw [lists_at r h16] at h
      refine ⟨m, rfl, h16, h, fun ho => ?_⟩
      rw [listsF] at h
      simp only [Bool.true_or, if_true] at h
      obtain ⟨a, r1, h2, _⟩ := bind_ok.1 h
      exact lstAt_eats _ _ _ _ ho _ _ h2
    · rw [lists, if_pos (by omega)] at h
      exact absurd h (not_fail _ _ _ _)
/-- Lists that were the whole text, with a newline and more behind: they go on there. -/
theorem lists_more {n d : Nat} {r : Bytes} {v : List Lst} (h : lists n d r = .ok v []) (n' e : Nat) (hn : n ≤ n') (D : Prop) (hD : 0 < e → D) (q y : Bytes) (hq : lines q = lines r ++ 10 :: y) (hlen : r.length + (10 :: y).length ≤ q.length) :
    (D ∧ ∃ l, lists n' (d + e) q = .err l 63) ∨ ∃ m k k', n' = m + 1 ∧ d + e + 1 ≤ 16 ∧ k' = q.length + 1 ∧ y.length + 1 ≤ k ∧ lists n' (d + e) q = listsF (lstAt m (d + e) k') k false v (lines y) := by
  obtain ⟨m, rfl, h16, h1, ho⟩ := lists_ok h
  obtain ⟨m', rfl⟩ : ∃ m', n' = m' + 1 := ⟨n' - 1, by omega⟩
  by_cases h17 : d + e + 1 ≤ 16
  · rw [lists_at q h17, hq]
    have hx : Ends (10 :: y) := .inr ⟨y, rfl⟩
    have hl := lstAt_E (x := 10 :: y) hx (D := D) (n := m) (n' := m') (d := d) (e := e) (k := r.length + 1) (k' := q.length + 1) (by omega) (by simp at hlen; omega) hD
    rcases listsF_C hx hl (lstAt_eats _ _ _) (r.length + 1) (q.length + 1) true [] (by simp at hlen; omega) (lines r) (.inr ho) v [] h1 with ⟨h2, _⟩ | h2 | ⟨_, y', k, h2, h3, h4⟩
    · rcases h2 with h2 | h2
      · simp at h2
      · exact absurd rfl h2
    · exact .inl h2
    · simp only [List.cons.injEq, true_and] at h2
      subst h2
      exact .inr ⟨m', k, _, rfl, h17, rfl, by simp at hlen; omega, h4⟩
  · rw [lists, if_pos (by omega)]
    exact .inl ⟨hD (by omega), q.length, by unfold failS failP; simp⟩
theorem listsF_end {list : Bytes → Rs Lst} {k : Nat} (hk : 0 < k) (v : List Lst) {r : Bytes} (h : over r = true) : listsF list k false v r = .ok v (blanks r) := by
  obtain ⟨k', rfl⟩ : ∃ k', k = k' + 1 := ⟨k - 1, by omega⟩
  rw [listsF, h]
  rfl

/-! scripts -/
theorem parse_lines {ls : Bytes → Rs (List Lst)} {s t : Bytes} (h : lines s = lines t) : parseG ls s = parseG ls t := by unfold parseG; rw [h]
theorem parse_ok {n d : Nat} {s : Bytes} {v : List Lst} {r' : Bytes} (h : parseF n d s = .ok v r') : ∃ m, n = m + 1 ∧ r' = [] ∧ ((lines s = [] ∧ v = []) ∨ (lines s ≠ [] ∧ lists m d (lines s) = .ok v [])) := by
  cases n with
  | zero => rw [parseF] at h; simp at h
  | succ m =>
    rw [parseF] at h
    unfold parseG at h
    obtain ⟨a, r1, h1, h2⟩ := bind_ok.1 h
    have hr : r1 = [] ∧ v = a ∧ r' = [] := by
      by_cases hr : r1.isEmpty = true
      · rw [if_pos hr] at h2
        obtain ⟨rfl, rfl⟩ := ok_inj h2
        exact ⟨by simpa using hr, rfl, rfl⟩
      · rw [if_neg hr] at h2; exact absurd h2 (not_fail _ _ _ _)
    obtain ⟨rfl, rfl, rfl⟩ := hr
    refine ⟨m, rfl, rfl, ?_⟩
    by_cases hl : (lines s).isEmpty = true
    · rw [if_pos hl] at h1
      obtain ⟨rfl, _⟩ := ok_inj h1
      exact .inl ⟨by simpa using hl, rfl⟩
    · rw [if_neg hl] at h1
      exact .inr ⟨by simpa using hl, h1⟩
theorem parse_mono {n n' d : Nat} {s : Bytes} {v : List Lst} {r' : Bytes} (h : parseF n d s = .ok v r') (hn : n ≤ n') : parseF n' d s = .ok v r' := by
  rcases (sim_all n).parse n' d 0 False hn (by omega) s v r' h with ⟨h1, _⟩ | h1 | ⟨h1, _⟩
  · exact absurd rfl h1
  · simpa using h1
  · exact absurd h1 id
/-- Two scripts with a newline between. -/
theorem parse_join {n n' n2 : Nat} {s t : Bytes} {a b : List Lst} {r1 r2 : Bytes} (hs : parseF n 0 s = .ok a r1) (ht : parseF n' 0 t = .ok b r2) (h1 : n ≤ n2) (h2 : n' ≤ n2) : parseF n2 0 (s ++ 10 :: t) = .ok (a ++ b) [] := by
  obtain ⟨m, hm, hr1, hs1⟩ := parse_ok hs
  obtain ⟨m', hm', hr2, ht'⟩ := parse_ok ht
  subst hm hm' hr1 hr2
  obtain ⟨m2, rfl⟩ : ∃ m2, n2 = m2 + 1 := ⟨n2 - 1, by omega⟩
  clear hs
  rcases hs1 with ⟨hs, rfl⟩ | ⟨hs, hs2⟩
  · have hl : lines (s ++ 10 :: t) = lines t := lines_gone t s hs
    rw [parseF, parse_lines hl, ← parseF]
    exact parse_mono ht h2
  · have ho : ¬ Out (lines s) := by
      obtain ⟨_, _, _, _, ho⟩ := lists_ok hs2
      rwa [lines_idem] at ho
    have hl : lines (s ++ 10 :: t) = lines s ++ 10 :: t := by
      rcases lines_A (x := 10 :: t) (.inr ⟨t, rfl⟩) s with h | h | h
      · simp at h
      · exact absurd h ho
      · exact h
    have hlen : (lines s).length + (10 :: t).length ≤ (lines s ++ 10 :: t).length := by simp
    have hq : lines (lines s ++ 10 :: t) = lines (lines s) ++ 10 :: t := by rw [← hl, lines_idem, hl, lines_idem]
    rw [parseF, parseG, hl]
    have hne : (lines s ++ 10 :: t).isEmpty = false := by cases h : lines s <;> rfl
    rw [hne]
    simp only [Bool.false_eq_true, if_false]
    rcases lists_more hs2 m2 0 (by omega) False (by omega) (lines s ++ 10 :: t) t hq hlen with ⟨h, _⟩ | ⟨k1, k, k', rfl, h16, hk', hk, h3⟩
    · exact absurd h id
    · simp only [Nat.add_zero] at h3
      rw [h3]
      rcases ht' with ⟨ht1, rfl⟩ | ⟨ht1, ht2⟩
      · rw [ht1, listsF_end (by omega) _ (by rfl)]
        simp only [Rs.bind, List.append_nil]
        rfl
      · obtain ⟨k2, rfl, _, h4, ho2⟩ := lists_ok ht2
        rw [lines_idem] at h4
        have hlt : (lines t).length ≤ t.length := by
          have : ∀ n r, (linesF n r).length ≤ r.length := by
            intro n
            induction n with
            | zero => intro r; rw [linesF]; exact Nat.le_refl _
            | succ n ih =>
              intro r
              have hl := blanks_le r
              rw [linesF]
              cases hb : blanks r with
              | nil => simp
              | cons c u =>
                rw [hb] at hl
                dsimp only
                split
                · exact Nat.le_trans (ih u) (by simp at hl; omega)
                · exact hl
          exact this _ _
        have h5 := listsF_first (lstAt_over _ _ _) _ _ _ _ _ (lines_stop t) h4
        have hx : Ends [] := .inl rfl
        have hll := lstAt_E (x := []) hx (D := False) (n := k2) (n' := k1) (d := 0) (e := 0) (k := (lines t).length + 1) (k' := k') (by omega) (by rw [hk']; simp; omega) (by omega)
        rcases listsF_E hx hll (lstAt_eats _ _ _) ((lines t).length + 1) k (by omega) (lines t) (.inl rfl) false [] b [] h5 with ⟨h6, _⟩ | h6 | ⟨h6, _⟩
        · exact absurd rfl h6
        · simp only [List.append_nil, Nat.add_zero] at h6
          have h7 := listsF_acc k false a [] (lines t) [] b h6
          rw [List.append_nil] at h7
          rw [h7]
          rfl
        · exact absurd h6 id
end Go.Proofs.Ytdfnkmiabmjolaa
namespace Go.Proofs.Ytdfnkmiabmjolaa
open Go.RowKit
set_option linter.unusedVariables false
set_option linter.unusedSimpArgs false

theorem wordP_wts (pe : Bytes → Int) (r r' : Bytes) (l : List Part) (e : wordP pe r = .ok l r') : Part.wts l ≤ 2 * r.length + 1 := by
  have hb := blanks_le r
  unfold wordP at e
  cases hs : scan (blanks r) with
  | err a c =>
    rw [hs] at e
    unfold failP at e
    dsimp only at e
    split at e <;> simp at e
  | ok l1 r1 =>
    rw [hs] at e
    have hl := (scan_ok _ _ _ hs).2
    dsimp only at e
    split at e
    · unfold failS failP at e; split at e <;> simp at e
    · split at e
      · unfold failS failP at e; split at e <;> simp at e
      · simp only [Rs.ok.injEq] at e
        obtain ⟨rfl, rfl⟩ := e
        split
        · simp [lit, Part.wts, Part.wt]
        · omega
theorem wordS_wts (n d : Nat) (r : Bytes) (l : List Part) (r' : Bytes) (e : wordS n d r = .ok l r') : Part.wts l ≤ 2 * r.length + 1 := by
  cases n with
  | zero => simp [wordS] at e
  | succ n => rw [wordS] at e; exact wordP_wts _ _ _ _ e

theorem branch_said (lsd : Nat → Bytes → Rs (List Lst)) (m : Nat) (hls : ∀ d, d ≤ 17 → LsSaid (lsd d) d m) (hll : ∀ d, Le (lsd d)) : ∀ (f d : Nat), d ≤ 17 → ∀ (g : Nat) (s : ByteArray) (r : Bytes) (w : World), ParsR w g s r d → s.size ≤ 8192 → r.length ≤ m → r.length < f →
    Calls Try.prog 72 #[.pointer (some ⟨g, 0, none⟩)] w (PPost w g s d (branchF lsd f d r) (isCmd0 w))
  | 0, _, _, _, _, _, _, _, _, _, h => absurd h (Nat.not_lt_zero _)
  | f + 1, d, hd, g, s, r, w, h, hs, hm, hf => by
    refine branch_step lsd f d (by omega) m (hls d hd) (hll d) g s r w h hs hm ?_
    intro hd' r' w' h' hr'
    exact branch_said lsd m hls hll f (d + 1) (by omega) g s r' w' h' hs (by omega) (by omega)

structure Knot (n : Nat) : Prop where
  lists : ∀ d, d ≤ 18 → ∀ m, 4 * m + 4 ≤ n → LsSaid (lists n d) d m
  command : ∀ d, d ≤ 16 → ∀ m, 4 * m + 3 ≤ n → CmdSaid (command n d) d m
  compound : ∀ d : Nat, d ≤ 17 → ∀ m, 4 * m + 1 ≤ n → ∀ (g : Nat) (s : ByteArray) (r : Bytes) (w : World), ParsR w g s r d → s.size ≤ 8192 → r.length ≤ m → Calls Try.prog 67 #[.pointer (some ⟨g, 0, none⟩)] w (PPost w g s d (compound n d r) (isComp w))
  word : ∀ d, d ≤ 17 → ∀ m, 4 * m + 2 ≤ n → WdSaid (wordS n d) d m
  parse : ∀ d : Nat, d ≤ 18 → ∀ m, 4 * m + 5 ≤ n ∨ (m = 0 ∧ 1 ≤ n) → ∀ (s : ByteArray) (w : World), s.size ≤ 8192 → s.size ≤ m → Calls Try.prog 33 #[.string s, .int .i64 d] w (ParseEnd w s (parseF n d s.data.toList))

set_option maxHeartbeats 1000000 in
theorem knot : ∀ n, Knot n
  | 0 => ⟨fun _ _ _ h => by omega, fun _ _ _ h => by omega, fun _ _ _ h => by omega, fun _ _ _ h => by omega, fun _ _ _ h => by omega⟩
  | n + 1 => by
    obtain ⟨k1, k2, k3, k4, k5⟩ := knot n
    obtain ⟨l1, l2, l3, l4⟩ := le_all n
    refine ⟨?_, ?_, ?_, ?_, ?_⟩
    · intro d hd m hm g s r w h hs hr
      rw [lists]
      refine lists_calls (listF (pipeP (command n (d + 1))) (r.length + 1) [] []) d (by omega) r.length ?_ ?_ r.length g s r w h hs (Nat.le_refl _) (Nat.le_refl _)
      · intro h16 g s r' w h hs hr'
        refine list_calls (pipeP (command n (d + 1))) (d + 1 : Nat) r.length ?_ ?_ r.length g s r' w h hs hr' hr'
        · intro g s r2 w h hs hr2
          exact pipe_calls (command n (d + 1)) (d + 1 : Nat) r.length (k2 (d + 1) h16 r.length (by omega)) (fun r c r1 e => l2 _ _ _ _ e) g s r2 w h hs hr2
        · exact fun r c r1 e => le_pipe (l2 _) _ _ _ e
      · intro r' c r1 e
        refine ⟨le_listF (le_pipe (l2 _)) _ _ _ _ _ _ e, ?_⟩
        rcases Nat.eq_zero_or_pos r'.length with h0 | h0
        · obtain rfl := List.eq_nil_of_length_eq_zero h0
          exact absurd e (lstAt_eats n d _ _ (Or.inr (by first | rfl | simp [blanks])) _ _)
        · exact h0
    · intro d hd m hm g s r w h hs hr
      rw [command]
      refine command_calls (wordS n d) (compound n d) (fun r1 => simpleF (wordS n d) (functionP (wordS n (d + 1)) d (compound n (d + 1))) (r1.length + 1) [] [] [] r1) d m (k4 d (by omega) m (by omega)) (l4 d) (k3 d (by omega) m (by omega)) ?_ (fun r o r1 e => l3 _ _ _ _ e) g s r w h hs hr
      intro g s r1 w h hs hr1
      refine simple_calls (wordS n d) (functionP (wordS n (d + 1)) d (compound n (d + 1))) d m (k4 d (by omega) m (by omega)) (l4 d) (wordS_wts n d) ?_ r1.length g s r1 w h hs hr1 (Nat.le_refl _)
      intro name g s r2 w h hs hr2
      exact function_calls (wordS n (d + 1)) (compound n (d + 1)) d (by omega) m (k4 (d + 1) (by omega) m (by omega)) (l4 _) (k3 (d + 1) (by omega) m (by omega)) (fun r o r1 e => l3 _ _ _ _ e) g s r2 name w h hs hr2
    · intro d hd m hm g s r w h hs hr
      rw [compound]
      refine compound_calls (wordS n d) (lists n d) (branchF (fun d' => lists n d') (r.length + 1) d) d (r.length - 1) (l1 d) g s r w h hs (by omega) ?_ ?_ ?_ ?_
      · intro h1; exact k1 d (by omega) _ (by omega)
      · intro h1 g s r' w h hs hr'
        exact branch_said (fun d' => lists n d') (r.length - 1) (fun d hd => k1 d (by omega) _ (by omega)) l1 (r.length + 1) d hd g s r' w h hs hr' (by omega)
      · intro h1 g s r' w h hs hr'
        exact each_calls (wordS n d) (lists n d) d (r.length - 1) (k4 d hd _ (by omega)) (l4 d) (k1 d (by omega) _ (by omega)) g s r' w h hs hr'
      · intro h1 g s r' w h hs hr'
        exact choice_calls (wordS n d) (lists n d) d (r.length - 1) (k4 d hd _ (by omega)) (l4 d) (k1 d (by omega) _ (by omega)) (l1 d) g s r' w h hs hr'
    · intro d hd m hm g s r w h hs hr
      rw [wordS]
      refine pword_calls (fun t => codeOf (parseF n (d + 1) t)) d (by omega) g s r w h hs ?_
      intro t w ht
      have hrl := h.len
      have hp := k5 (d + 1) (by omega) (r.length - 3) (by omega) (bstr t) w (by rw [bstr_size]; omega) (by rw [bstr_size]; omega)
      rw [bstr_toList] at hp
      refine hp.mono ?_
      rintro e w' ⟨hC, hp⟩
      refine ⟨?_, hC⟩
      cases hq : parseF n (d + 1) t with
      | ok l r2 =>
        rw [hq] at hp
        obtain ⟨A, c, rfl, _⟩ := hp
        exact ⟨A, l.length, c, 0, by dsimp only; rw [hq]; rfl⟩
      | err left c =>
        rw [hq] at hp
        obtain ⟨rfl, _⟩ := hp
        exact ⟨none, 0, 0, ((bstr t).size - left : Nat), by dsimp only; rw [hq]; rfl⟩
    · intro d hd m hm s w hs hsm
      rw [parseF]
      exact parse_calls (lists n d) d m s w hs hsm (fun h1 => k1 d hd m (by omega))

set_option maxRecDepth 100000 in
set_option maxHeartbeats 2000000 in
/-- A text that is too long. -/
theorem Parse_long (s : ByteArray) (w : World) (hs : 8192 < s.size) :
    Calls Try.prog 24 #[.string s] w fun e w' => e = .returned (.tuple #[.slice none 0 0, .int .i64 0, .int .i64 2]) ∧ w = w' := by
  have h1 : (8192 : Int) < (s.size : Int) := by omega
  go_enter Try.func24, Try.ntmps24
  go_wp2
  refine bodyPost_ret (v := .tuple #[.slice none 0 0, .int .i64 0, .int .i64 2]) (by simp [results, Try.results24, go_sem]) rfl ?_
  exact ⟨rfl, rfl⟩
set_option maxRecDepth 100000 in
set_option maxHeartbeats 2000000 in
theorem Parse_calls (s : ByteArray) (w : World) (n : Nat) (hn : 4 * s.size + 5 ≤ n) (hs : s.size ≤ 8192) :
    Calls Try.prog 24 #[.string s] w (ParseEnd w s (parseF n 0 s.data.toList)) := by
  have hP := (knot n).parse 0 (by omega) s.size (.inl hn) s
  have h1 : decide ((8192 : Int) < (s.size : Int)) = false := by simp; omega
  have h2 : decide (8192 < s.size) = false := by simp; omega
  generalize parseF n 0 s.data.toList = R at *
  go_enter Try.func24, Try.ntmps24
  go_wp2_with fail
  refine (hP w hs (Nat.le_refl _)).mono ?_
  rintro e w' ⟨hC, hp⟩
  cases R with
  | ok l r =>
    obtain ⟨A, c, rfl, hO⟩ := hp
    go_wp2
    refine bodyPost_ret (v := .tuple #[.slice A l.length c, .int .i64 0, .int .i64 0]) (by simp [results, Try.results24, go_sem]) rfl ?_
    exact ⟨hC, A, c, rfl, hO⟩
  | err left c =>
    obtain ⟨rfl, hle⟩ := hp
    go_wp2
    refine bodyPost_ret (v := .tuple #[.slice none 0 0, .int .i64 (s.size - left : Nat), .int .i64 c]) (by simp [results, Try.results24, go_sem]) rfl ?_
    exact ⟨hC, rfl, hle⟩
end Go.Proofs.Ytdfnkmiabmjolaa
namespace Go.Proofs.Ytdfnkmiabmjolaa
open Go.RowKit
set_option linter.unusedVariables false
set_option linter.unusedSimpArgs false

set_option pp.deepTerms true in
set_option pp.maxSteps 200000 in
set_option maxRecDepth 100000 in
set_option maxHeartbeats 2000000 in
theorem words_calls (w : World) (S1 S2 : Nat → Prop) (v1 v2 : Value) (ws : List (List Part)) (h1 : Rep w S1 (wordsD ws) [v1]) (h2 : Rep w S2 (wordsD ws) [v2]) :
    Calls Try.prog 46 #[v1, v2] w fun e w' => e = .returned (.bool true) ∧ ∃ m, w' = w.drewN m := by
  rw [wordsD] at h1 h2
  obtain ⟨B1, d1, rfl⟩ := sl_form h1
  obtain ⟨B2, d2, rfl⟩ := sl_form h2
  simp only [List.length_map] at h1 h2 ⊢
  go_enter Try.func46, Try.ntmps46
  go_wp2
  go_loopg [5] ws.length (fun rk i wr => ∃ k : Nat, k + rk = ws.length ∧ i = .int .i64 k ∧ ∃ m, wr = w.drewN m)
  case atStart => exact ⟨0, by omega, rfl, 0, rfl⟩
  case round =>
    obtain ⟨k, hk, rfl, m, hm⟩ := hrel
    have h1' : Rep wr S1 (.sl 24 1 (ws.map wordD)) [.slice B1 ws.length d1] := by rw [hm]; exact h1.stay ((Chg.refl (fun _ => False) _).drewN _) (fun _ _ e => e)
    have h2' : Rep wr S2 (.sl 24 1 (ws.map wordD)) [.slice B2 ws.length d2] := by rw [hm]; exact h2.stay ((Chg.refl (fun _ => False) _).drewN _) (fun _ _ e => e)
    clear h1 h2
    have HM := Lib.hid hm; clear hm
    by_cases hlt : k < ws.length
    · obtain ⟨p, hp⟩ : ∃ p, ws[k]? = some p := ⟨ws[k], List.getElem?_eq_getElem hlt⟩
      obtain ⟨b1, o1, c1', cs1, hv1, hc1, hm1, hb1, hr1, hl1, hcs1⟩ := sl_get h1' (by omega) k (wordD p) (by rw [List.getElem?_map, hp]; rfl)
      obtain ⟨b2, o2, c2', cs2, hv2, _, _, hb2, hr2, hl2, hcs2⟩ := sl_get h2' (by omega) k (wordD p) (by rw [List.getElem?_map, hp]; rfl)
      simp only [List.length_map, Value.slice.injEq] at hv1 hv2
      obtain ⟨rfl, _, rfl⟩ := hv1
      obtain ⟨rfl, _, rfl⟩ := hv2
      simp only [List.length_map, maxLen] at hc1 hm1
      have r0 : IntKind.i64.wrap ((k : Int) + 1) = (k : Int) + 1 := IntWalk.i64_in _ (by omega)
      clear hp h1' h2'
      match cs1, hl1 with
      | [u1], _ =>
      match cs2, hl2 with
      | [u2], _ =>
      have g1 := hcs1 0 _ rfl
      have g2 := hcs2 0 _ rfl
      simp only [Nat.mul_one, Nat.add_zero] at g1 g2
      have hcall : ∀ m' : Nat, Calls Try.prog 12 #[u1, u2] (wr.drewN m') fun e w' => e = .returned (.bool true) ∧ ∃ n, w' = (wr.drewN m').drewN n :=
        fun m' => (same_calls (wr.drewN m') S1 S2 u1 u2 p p (hr1.stay ((Chg.refl (fun _ => False) _).drewN _) (fun _ _ e => e)) (hr2.stay ((Chg.refl (fun _ => False) _).drewN _) (fun _ _ e => e))).mono (fun _ _ hh => ⟨by rw [← beqs_refl p]; exact hh.1, hh.2⟩)
      obtain ⟨A1, n1, rfl⟩ := sl_form hr1
      obtain ⟨A2, n2, rfl⟩ := sl_form hr2
      clear hcs1 hcs2 hr1 hr2
      go_wp2
      go_quiet ((go_at_call 12; exact (hcall _).quiet_of))
      go_wp2
      go_roundg (gk - 1)
      case measure => omega
      case rel => exact ⟨k + 1, by omega, rfl, m + nq, by rw [HM.out, World.drewN_drewN]⟩
    · go_wp2
      go_ret
      exact ⟨rfl, m, HM.out⟩
end Go.Proofs.Ytdfnkmiabmjolaa
namespace Go.Proofs.Ytdfnkmiabmjolaa
open Go.RowKit
set_option linter.unusedVariables false
set_option linter.unusedSimpArgs false

def CmdsSame (n : Nat) : Prop := ∀ (w : World) (S1 S2 : Nat → Prop) (v1 v2 : Value) (cs : List Cmd), SizeOf.sizeOf cs < n → Rep w S1 (.sl 53 9 (Cmd.ds cs)) [v1] → Rep w S2 (.sl 53 9 (Cmd.ds cs)) [v2] →
  Calls Try.prog 34 #[v1, v2] w fun e w' => e = .returned (.bool true) ∧ Chg (fun _ => False) w w'
def ListsSame (n : Nat) : Prop := ∀ (w : World) (S1 S2 : Nat → Prop) (v1 v2 : Value) (ls : List Lst), SizeOf.sizeOf ls < n → Rep w S1 (.sl 44 2 (Lst.ds ls)) [v1] → Rep w S2 (.sl 44 2 (Lst.ds ls)) [v2] →
  Calls Try.prog 25 #[v1, v2] w fun e w' => e = .returned (.bool true) ∧ Chg (fun _ => False) w w'

set_option pp.deepTerms true in
set_option pp.maxSteps 200000 in
set_option maxRecDepth 100000 in
set_option maxHeartbeats 2000000 in
theorem lists_step (n : Nat) (IH : CmdsSame n) (w : World) (S1 S2 : Nat → Prop) (v1 v2 : Value) (ls : List Lst) (hn : SizeOf.sizeOf ls ≤ n) (h1 : Rep w S1 (.sl 44 2 (Lst.ds ls)) [v1]) (h2 : Rep w S2 (.sl 44 2 (Lst.ds ls)) [v2]) :
    Calls Try.prog 25 #[v1, v2] w fun e w' => e = .returned (.bool true) ∧ Chg (fun _ => False) w w' := by
  obtain ⟨B1, d1, rfl⟩ := sl_form h1
  obtain ⟨B2, d2, rfl⟩ := sl_form h2
  simp only [Lst.ds_map, List.length_map] at h1 h2 ⊢
  go_enter Try.func25, Try.ntmps25
  go_wp2
  go_loopg [5] ls.length (fun rk i wr => ∃ k : Nat, k + rk = ls.length ∧ i = .int .i64 k ∧ Chg (fun _ => False) w wr)
  case atStart => exact ⟨0, by omega, rfl, Chg.refl _ _⟩
  case round =>
    obtain ⟨k, hk, rfl, hC⟩ := hrel
    generalize wr = W0 at *
    have h1' := h1.stay hC (fun _ _ e => e)
    have h2' := h2.stay hC (fun _ _ e => e)
    clear h1 h2
    by_cases hlt : k < ls.length
    · obtain ⟨p, hp⟩ : ∃ p, ls[k]? = some p := ⟨ls[k], List.getElem?_eq_getElem hlt⟩
      have hmem : p ∈ ls := List.mem_of_getElem? hp
      have hsz := List.sizeOf_lt_of_mem hmem
      obtain ⟨b1, o1, c1', cs1, hv1, hc1, hm1, hb1, hr1, hl1, hcs1⟩ := sl_get h1' (by omega) k p.d (by rw [List.getElem?_map, hp]; rfl)
      obtain ⟨b2, o2, c2', cs2, hv2, _, _, hb2, hr2, hl2, hcs2⟩ := sl_get h2' (by omega) k p.d (by rw [List.getElem?_map, hp]; rfl)
      simp only [List.length_map, Value.slice.injEq] at hv1 hv2
      obtain ⟨rfl, _, rfl⟩ := hv1
      obtain ⟨rfl, _, rfl⟩ := hv2
      simp only [List.length_map, maxLen] at hc1 hm1
      have r0 : IntKind.i64.wrap ((k : Int) + 1) = (k : Int) + 1 := IntWalk.i64_in _ (by omega)
      clear hp h1' h2' hmem
      obtain ⟨ps, os⟩ := p
      obtain ⟨x1, y1, rfl, hx1, hy1⟩ := lst_rep.1 hr1
      obtain ⟨x2, y2, rfl, hx2, hy2⟩ := lst_rep.1 hr2
      obtain ⟨A1, n1, rfl⟩ := sl_form hx1
      obtain ⟨A2, n2, rfl⟩ := sl_form hx2
      obtain ⟨E1, m1, rfl⟩ := sl_form hy1
      obtain ⟨E2, m2, rfl⟩ := sl_form hy2
      simp only [Pip.ds_map, List.length_map] at hx1 hx2 hy1 hy2 hcs1 hcs2
      have g11 := hcs1 0 _ rfl
      have g12 := hcs1 1 _ rfl
      have g21 := hcs2 0 _ rfl
      have g22 := hcs2 1 _ rfl
      simp only [Nat.add_zero, ← Nat.add_assoc] at g11 g12 g21 g22
      clear hcs1 hcs2 hr1 hr2
      have HG := Lib.hid (And.intro g11 g21)
      have HR0 := Lib.hid r0
      go_wp2
      go_quiet (fail)
      go_wp2
      go_loopg [6] os.length (fun rk i wx => ∃ j : Nat, j + rk = os.length ∧ i = .int .i64 j ∧ Chg (fun _ => False) W0 wx)
      case atStart => exact ⟨0, by omega, rfl, (Chg.refl _ _).drewN _⟩
      case round =>
        obtain ⟨j, hj, rfl, hC1⟩ := hrel
        generalize wr = W1 at *
        have k11 := hC1.cell g11 (fun e => e)
        have k12 := hC1.cell g12 (fun e => e)
        have k21 := hC1.cell g21 (fun e => e)
        have k22 := hC1.cell g22 (fun e => e)
        have hz1 := hy1.stay hC1 (fun _ _ e => e)
        have hz2 := hy2.stay hC1 (fun _ _ e => e)
        have hX1 := Lib.hid hx1
        have hX2 := Lib.hid hx2
        have hY1 := Lib.hid hy1
        have hY2 := Lib.hid hy2
        clear hx1 hx2 hy1 hy2 g11 g12 g21 g22
        by_cases hjl : j < os.length
        · obtain ⟨o, ho⟩ : ∃ o, os[j]? = some o := ⟨os[j], List.getElem?_eq_getElem hjl⟩
          obtain ⟨b3, o3, c3', cs3, hv3, hc3, hm3, _, hr3, hl3, hcs3⟩ := sl_get hz1 (by omega) j (bytesD o) (by rw [List.getElem?_map, ho]; rfl)
          obtain ⟨b4, o4, c4', cs4, hv4, _, _, _, hr4, hl4, hcs4⟩ := sl_get hz2 (by omega) j (bytesD o) (by rw [List.getElem?_map, ho]; rfl)
          simp only [List.length_map, Value.slice.injEq] at hv3 hv4
          obtain ⟨rfl, _, rfl⟩ := hv3
          obtain ⟨rfl, _, rfl⟩ := hv4
          simp only [List.length_map, maxLen] at hc3 hm3
          have e3 : cs3 = [.string (bstr o)] := hr3
          have e4 : cs4 = [.string (bstr o)] := hr4
          subst e3 e4
          have k3 := hcs3 0 _ rfl
          have k4 := hcs4 0 _ rfl
          simp only [Nat.mul_one, Nat.add_zero] at k3 k4
          have r1 : IntKind.i64.wrap ((j : Int) + 1) = (j : Int) + 1 := IntWalk.i64_in _ (by omega)
          clear ho hz1 hz2 hcs3 hcs4 hr3 hr4
          generalize bstr o = ob at *
          go_wp2
          go_quiet (fail)
          go_wp2
          go_roundg (gk - 1)
          case measure => omega
          case rel => exact ⟨j + 1, by omega, rfl, hC1.drewN _⟩
        · clear hz1 hz2
          go_wp2
          go_loopg [7] ps.length (fun rk i wy => ∃ j : Nat, j + rk = ps.length ∧ i = .int .i64 j ∧ Chg (fun _ => False) W0 wy)
          case atStart => exact ⟨0, by omega, rfl, hC1⟩
          case round =>
            obtain ⟨q, hq, rfl, hC3⟩ := hrel
            generalize wr = W2 at *
            have g11 := HG.out.1
            have g21 := HG.out.2
            have j11 := hC3.cell g11 (fun e => e)
            have j21 := hC3.cell g21 (fun e => e)
            have hz1 := hX1.out.stay hC3 (fun _ _ e => e)
            have hz2 := hX2.out.stay hC3 (fun _ _ e => e)
            clear g11 g21 k11 k12 k21 k22
            by_cases hql : q < ps.length
            · obtain ⟨pp, hpp⟩ : ∃ o, ps[q]? = some o := ⟨ps[q], List.getElem?_eq_getElem hql⟩
              have hmem := List.mem_of_getElem? hpp
              have hsz2 := List.sizeOf_lt_of_mem hmem
              obtain ⟨b3, o3, c3', cs3, hv3, hc3, hm3, _, hr3, hl3, hcs3⟩ := sl_get hz1 (by omega) q pp.d (by rw [List.getElem?_map, hpp]; rfl)
              obtain ⟨b4, o4, c4', cs4, hv4, _, _, _, hr4, hl4, hcs4⟩ := sl_get hz2 (by omega) q pp.d (by rw [List.getElem?_map, hpp]; rfl)
              simp only [List.length_map, Value.slice.injEq] at hv3 hv4
              obtain ⟨rfl, _, rfl⟩ := hv3
              obtain ⟨rfl, _, rfl⟩ := hv4
              simp only [List.length_map, maxLen] at hc3 hm3
              obtain ⟨neg, cs⟩ := pp
              obtain ⟨x3, rfl, hx3⟩ := pip_rep.1 hr3
              obtain ⟨x4, rfl, hx4⟩ := pip_rep.1 hr4
              obtain ⟨A3, n3, rfl⟩ := sl_form hx3
              obtain ⟨A4, n4, rfl⟩ := sl_form hx4
              have k31 := hcs3 0 _ rfl
              have k32 := hcs3 1 _ rfl
              have k41 := hcs4 0 _ rfl
              have k42 := hcs4 1 _ rfl
              simp only [Nat.add_zero, ← Nat.add_assoc] at k31 k32 k41 k42
              have r1 : IntKind.i64.wrap ((q : Int) + 1) = (q : Int) + 1 := IntWalk.i64_in _ (by omega)
              have hlt3 : SizeOf.sizeOf cs < n := by
                simp only [Lst.mk.sizeOf_spec, Pip.mk.sizeOf_spec] at hsz hsz2
                omega
              clear hpp hmem hz1 hz2 hcs3 hcs4 hr3 hr4 hsz hsz2
              go_wp2
              refine still_tail2 38 (by kernel_rfl) (by kernel_rfl) ?_
              simp only [List.take_succ_cons, List.take_zero, List.drop_succ_cons, List.drop_zero]
              repeat still_step
              refine wpStill_nil ?_
              go_wp2_with fail
              refine (IH _ S1 S2 _ _ cs hlt3 (hx3.stay ((Chg.refl (fun _ => False) W2).drewN 1) (fun _ _ e => e)) (hx4.stay ((Chg.refl (fun _ => False) W2).drewN 1) (fun _ _ e => e))).mono ?_
              rintro e W3 ⟨rfl, hC4⟩
              go_wp2
              go_roundg (ps.length - (q + 1))
              case measure => omega
              case rel => exact ⟨q + 1, by omega, rfl, (hC3.drewN 1).trans hC4 (fun _ h _ => h)⟩
            · clear hz1 hz2
              have r0 := HR0.out
              go_wp2
              go_roundg (ls.length - (k + 1))
              case measure => omega
              case rel => exact ⟨k + 1, by omega, rfl, hC.trans hC3 (fun _ h _ => h)⟩
    · go_wp2
      go_ret
      exact ⟨rfl, hC⟩
end Go.Proofs.Ytdfnkmiabmjolaa
