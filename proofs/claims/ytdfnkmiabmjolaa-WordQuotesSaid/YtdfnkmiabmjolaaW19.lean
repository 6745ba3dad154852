/- Walks of the laws of words: the chapter's example. -/
import Derived.Test.YtdfnkmiabmjolaaW18
namespace Go.Proofs.Ytdfnkmiabmjolaa
open Go.RowKit
set_option linter.unusedVariables false
set_option linter.unusedSimpArgs false

def awakeText : Bytes := [97, 39, 98, 32, 99, 39, 34, 36, 120, 34, 36, 123, 121, 58, 45, 122, 125, 59]
def awakeParts : List Part := [.mk 1 false [97] [] [], .mk 1 true [98, 32, 99] [] [], .mk 2 true [120] [] [], .mk 2 false [121] [58, 45] [.mk 1 false [122] [] []]]
theorem awake_scan : scan awakeText = .ok awakeParts [59] := by kernel_rfl
theorem beqs_refl : ∀ l : List Part, beqs l l = true := by
  have key : ∀ n (p : Part), p.wt ≤ n → Part.beq p p = true := by
    intro n
    induction n with
    | zero => intro p h; obtain ⟨k, q, t, o, w⟩ := p; simp [Part.wt] at h
    | succ n ih =>
      intro p h
      obtain ⟨k, q, t, o, w⟩ := p
      simp only [Part.wt] at h
      have : ∀ l : List Part, Part.wts l ≤ n → beqs l l = true := by
        intro l
        induction l with
        | nil => intro _; rfl
        | cons p l ihl =>
          intro h
          simp only [Part.wts] at h
          rw [beqs, ih p (by omega), ihl (by omega)]; rfl
      rw [Part.beq, this w (by omega)]
      simp
  intro l
  induction l with
  | nil => rfl
  | cons p l ih => rw [beqs, key _ p (Nat.le_refl _), ih]; rfl

theorem row_rd {w : World} {g : Nat} {cs : List Value} {t : TypeId} {S : Nat → Prop} (h : w.heap[g]? = some (.cells cs.toArray t)) (hS : S g) : Rd w S (some ⟨g, 0, none⟩) cs := by
  intro j u hj
  refine ⟨g, 0, rfl, hS, ?_⟩
  rw [Nat.zero_add, row_cells h j]
  simpa using hj

set_option maxRecDepth 100000 in
set_option maxHeartbeats 1000000 in
theorem awake_calls (w : World) : Calls Try.prog 10 #[] w fun e w' => e = .returned (.bool true) ∧ Chg (fun _ => False) w w' := by
  go_enter Try.func10, Try.ntmps10
  go_wp2_with fail
  have hS := Scan_calls ⟨#[97, 39, 98, 32, 99, 39, 34, 36, 120, 34, 36, 123, 121, 58, 45, 122, 125, 59]⟩ 0 w (by decide) (by decide)
  rw [show scan ((⟨#[97, 39, 98, 32, 99, 39, 34, 36, 120, 34, 36, 123, 121, 58, 45, 122, 125, 59]⟩ : ByteArray).data.toList.drop 0) = .ok awakeParts [59] from awake_scan] at hS
  refine Calls.mono hS ?_
  rintro e w1 ⟨hC, v, rfl, hj, hO⟩
  clear hj
  obtain ⟨A, c, rfl, _, _⟩ := Own.form hO
  have hz := hC.size
  go_wp2_with fail
  have r1 := row_alloc (row_new w1 (.cells #[.int .i64 1, .bool false, .string ⟨#[122]⟩, .string ⟨#[]⟩, .slice none 0 0] 35)) (.cells #[.int .i64 1, .bool false, .string ⟨#[97]⟩, .string ⟨#[]⟩, .slice none 0 0, .int .i64 1, .bool true, .string ⟨#[98, 32, 99]⟩, .string ⟨#[]⟩, .slice none 0 0, .int .i64 2, .bool true, .string ⟨#[120]⟩, .string ⟨#[]⟩, .slice none 0 0, .int .i64 2, .bool false, .string ⟨#[121]⟩, .string ⟨#[58, 45]⟩, .slice (some ⟨w1.heap.size, 0, none⟩) 1 1] 35)
  have r2 := row_new (w1.alloc (.cells #[.int .i64 1, .bool false, .string ⟨#[122]⟩, .string ⟨#[]⟩, .slice none 0 0] 35)) (.cells #[.int .i64 1, .bool false, .string ⟨#[97]⟩, .string ⟨#[]⟩, .slice none 0 0, .int .i64 1, .bool true, .string ⟨#[98, 32, 99]⟩, .string ⟨#[]⟩, .slice none 0 0, .int .i64 2, .bool true, .string ⟨#[120]⟩, .string ⟨#[]⟩, .slice none 0 0, .int .i64 2, .bool false, .string ⟨#[121]⟩, .string ⟨#[58, 45]⟩, .slice (some ⟨w1.heap.size, 0, none⟩) 1 1] 35)
  rw [World.size_alloc] at r2
  have hC2 : Chg (fun _ => False) w1 ((w1.alloc (.cells #[.int .i64 1, .bool false, .string ⟨#[122]⟩, .string ⟨#[]⟩, .slice none 0 0] 35)).alloc (.cells #[.int .i64 1, .bool false, .string ⟨#[97]⟩, .string ⟨#[]⟩, .slice none 0 0, .int .i64 1, .bool true, .string ⟨#[98, 32, 99]⟩, .string ⟨#[]⟩, .slice none 0 0, .int .i64 2, .bool true, .string ⟨#[120]⟩, .string ⟨#[]⟩, .slice none 0 0, .int .i64 2, .bool false, .string ⟨#[121]⟩, .string ⟨#[58, 45]⟩, .slice (some ⟨w1.heap.size, 0, none⟩) 1 1] 35)) := ((Chg.refl _ _).alloc _).alloc _
  revert r1 r2 hC2
  generalize (w1.alloc (.cells #[.int .i64 1, .bool false, .string ⟨#[122]⟩, .string ⟨#[]⟩, .slice none 0 0] 35)).alloc (.cells #[.int .i64 1, .bool false, .string ⟨#[97]⟩, .string ⟨#[]⟩, .slice none 0 0, .int .i64 1, .bool true, .string ⟨#[98, 32, 99]⟩, .string ⟨#[]⟩, .slice none 0 0, .int .i64 2, .bool true, .string ⟨#[120]⟩, .string ⟨#[]⟩, .slice none 0 0, .int .i64 2, .bool false, .string ⟨#[121]⟩, .string ⟨#[58, 45]⟩, .slice (some ⟨w1.heap.size, 0, none⟩) 1 1] 35) = w2
  intro r1 r2 hC2
  have hZ : Rep w2 (fun _ => True) (.sl 35 5 (Part.ds [.mk 1 false [122] [] []])) [.slice (some ⟨w1.heap.size, 0, none⟩) 1 1] :=
    ⟨_, _, _, rfl, Nat.le_refl _, by simp [maxLen], row_rd r1 trivial, _, [], rfl, rfl, part_nil w2 _ 1 false ⟨#[122]⟩ [122] rfl, rfl⟩
  have hW : Rep w2 (fun _ => True) (.sl 35 5 (Part.ds awakeParts)) [.slice (some ⟨w1.heap.size + 1, 0, none⟩) 4 4] :=
    ⟨_, _, _, rfl, Nat.le_refl _, by simp [maxLen], row_rd r2 trivial,
      [.int .i64 1, .bool false, .string ⟨#[97]⟩, .string ⟨#[]⟩, .slice none 0 0], _, rfl, rfl, part_nil w2 _ 1 false ⟨#[97]⟩ [97] rfl,
      [.int .i64 1, .bool true, .string ⟨#[98, 32, 99]⟩, .string ⟨#[]⟩, .slice none 0 0], _, rfl, rfl, part_nil w2 _ 1 true ⟨#[98, 32, 99]⟩ [98, 32, 99] rfl,
      [.int .i64 2, .bool true, .string ⟨#[120]⟩, .string ⟨#[]⟩, .slice none 0 0], _, rfl, rfl, part_nil w2 _ 2 true ⟨#[120]⟩ [120] rfl,
      [.int .i64 2, .bool false, .string ⟨#[121]⟩, .string ⟨#[58, 45]⟩, .slice (some ⟨w1.heap.size, 0, none⟩) 1 1], [], rfl, rfl, part_rep.2 ⟨_, rfl, hZ⟩, rfl⟩
  refine (same_calls w2 _ _ _ _ awakeParts awakeParts (hO.stay hC2 (fun _ _ e => e)).rep hW).mono ?_
  rintro e w3 ⟨rfl, m, rfl⟩
  go_wp2
  go_ret
  rw [beqs_refl]
  exact ⟨rfl, (hC.trans hC2 (fun _ h _ => h)).drewN _⟩
end Go.Proofs.Ytdfnkmiabmjolaa
