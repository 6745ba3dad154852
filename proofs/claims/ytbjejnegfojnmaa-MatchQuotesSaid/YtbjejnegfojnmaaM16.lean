/- Walks of the reference of match: all beginnings of a text at once. -/
import Derived.Test.YtbjejnegfojnmaaM15
import Derived.Laws.MakeOwn
import Derived.BigQuiet
namespace Go.Proofs.Ytbjejnegfojnmaa
open Go.RowKit
set_option linter.unusedVariables false
set_option linter.unusedSimpArgs false

/-- A row of truth values, numbers 0 to S. -/
def boolRow (f : Nat → Bool) (S : Nat) : Array Value := ((List.range (S + 1)).map (fun i => Value.bool (f i))).toArray
def RowB (w : World) (g : Nat) (f : Nat → Bool) (S : Nat) : Prop := w.heap[g]? = some (.cells (boolRow f S) 4 (0, 0))
theorem boolRow_congr {f h : Nat → Bool} {S : Nat} (e : ∀ i, i ≤ S → f i = h i) : boolRow f S = boolRow h S := by
  unfold boolRow
  congr 1
  apply List.map_congr_left
  intro i hi
  rw [List.mem_range] at hi
  rw [e i (by omega)]
theorem RowB.congr {w : World} {g : Nat} {f h : Nat → Bool} {S : Nat} (r : RowB w g f S) (e : ∀ i, i ≤ S → f i = h i) : RowB w g h S := by
  unfold RowB at *
  rw [← boolRow_congr e]; exact r
theorem RowB.cell {w : World} {g : Nat} {f : Nat → Bool} {S : Nat} (r : RowB w g f S) (i : Nat) (hi : i ≤ S) : w.cell? ⟨g, i, none⟩ = some (.bool (f i)) := by
  rw [row_cells r i]
  have h : i < S + 1 := by omega
  simp [boolRow, h]
theorem RowB.free {w : World} {g : Nat} {f : Nat → Bool} {S : Nat} (r : RowB w g f S) (i : Nat) : w.frozen? ⟨g, i, none⟩ = false := row_free r i
theorem boolRow_set (f : Nat → Bool) (S i : Nat) (b : Bool) : (boolRow f S).setIfInBounds i (.bool b) = boolRow (fun j => if j = i then b else f j) S := by
  apply Array.ext'
  simp only [boolRow, Array.toList_setIfInBounds]
  apply List.ext_getElem
  · simp
  · intro j h1 h2
    simp only [List.getElem_set, List.getElem_map, List.getElem_range]
    by_cases e : i = j
    · subst e; simp
    · have : ¬ j = i := fun h => e h.symm
      simp [e, this]
theorem RowB.set {w : World} {g : Nat} {f : Nat → Bool} {S : Nat} (r : RowB w g f S) (i : Nat) (b : Bool) : RowB (w.setCell ⟨g, i, none⟩ (.bool b)) g (fun j => if j = i then b else f j) S := by
  unfold RowB
  rw [row_set r i (.bool b), boolRow_set]
theorem made_row (S : Nat) : madeCells (Value.bool false).cells ((S + 1) * 1) = boolRow (fun _ => false) S := by
  apply Array.ext'
  simp only [madeCells, boolRow, Array.toList_map, Array.toList_range, Nat.mul_one]
  apply List.map_congr_left
  intro i _
  have : i % (Value.bool false).cells.size = 0 := by show i % 1 = 0; omega
  rw [this]; rfl
theorem run_make_bools (S : Nat) (hS : S ≤ 1000000) (w : World) :
    (Instr.makeSlice 35 (.int .i64 ((S : Int) + 1)) (.int .i64 ((S : Int) + 1))).run Try.prog w = .ok (.slice (some ⟨w.heap.size, 0, none⟩) (S + 1) (S + 1)) (w.alloc (.cells (boolRow (fun _ => false) S) 4)) := by
  have hinfo : (Try.prog.info? 4).map (fun i => (i.zero, i.size, i.bytes)) = some (some (.bool false), 1, 1) := by kernel_rfl
  obtain ⟨i0, hi, hz0, hz1, hz2⟩ := info_parts hinfo
  have h := run_make (P := Try.prog) w 35 4 i0 (.bool false) Try.underlying35 hi hz0 .i64 .i64 ((S : Int) + 1) ((S : Int) + 1) (by omega) (by omega) (by rw [hz2]; omega) (by omega)
  rw [h, hz1]
  have e : ((S : Int) + 1).toNat = S + 1 := by omega
  rw [e, made_row]
theorem step_star (s : Bytes) (f : Nat → Bool) (i : Nat) : stepR s .star f i = (f i || (decide (0 < i) && stepR s .star f (i - 1))) := by
  have h : ∀ k, stepR s .star f k = (List.range (k + 1)).any f := fun k => by simp [stepR, Piece.isStar]
  rw [h, h]
  cases i with
  | zero => simp
  | succ i =>
    rw [List.range_succ, List.any_append, Nat.add_sub_cancel]
    simp [Bool.or_comm]
theorem step_zero (s : Bytes) (x : Piece) (hx : x.isStar = false) (f : Nat → Bool) : stepR s x f 0 = false := by
  rw [stepR, hx, if_neg (by simp)]
theorem step_off (s : Bytes) (x : Piece) (hx : x.isStar = false) (f : Nat → Bool) (i : Nat) (h : f i = false) : stepR s x f (i + 1) = false := by
  rw [stepR, hx, if_neg (by simp)]
  simp [h]
theorem step_on (s : Bytes) (x : Piece) (hx : x.isStar = false) (f : Nat → Bool) (i : Nat) (c : UInt8) (h : f i = true) (hc : s[i]? = some c) : stepR s x f (i + 1) = oneL x c := by
  rw [stepR, hx, if_neg (by simp)]
  simp [h, hc]

def ReachRel (w : World) (p s : ByteArray) (RF : Bool) (n : Nat) (nv av : Value) (wr : World) : Prop :=
  ∃ (g a : Nat) (f : Nat → Bool), nv = .slice (some ⟨g, 0, none⟩) (s.size + 1) (s.size + 1) ∧ av = .int .i64 a ∧ a ≤ p.size ∧ p.size < n + a ∧ RowB wr g f s.size ∧ w.heap.size ≤ g ∧ Hid (reachR s.data.toList (cutF n (p.data.toList.drop a)) f s.size = RF) ∧ Chg (fun _ => False) w wr
def InRel (w : World) (s : ByteArray) (g g' : Nat) (f h : Nat → Bool) (n : Nat) (iv : Value) (wr : World) : Prop :=
  ∃ i : Nat, iv = .int .i64 i ∧ i + n = s.size + 1 ∧ RowB wr g f s.size ∧ RowB wr g' (fun j => if j < i then h j else false) s.size ∧ Chg (fun _ => False) w wr
theorem InRel.next {w wr : World} {s : ByteArray} {g g' : Nat} {f h : Nat → Bool} {n i : Nat} (b : Bool) (hn : i + 1 + n = s.size + 1) (r : RowB wr g f s.size) (r' : RowB wr g' (fun j => if j < i then h j else false) s.size) (hC : Chg (fun _ => False) w wr)
    (hg : g < g') (hw : w.heap.size ≤ g') (hb : h i = b) (m : Nat) (v : Value) (hv : v = .int .i64 ((i + 1 : Nat) : Int)) : InRel w s g g' f h n v ((wr.drewN m).setCell ⟨g', i, none⟩ (.bool b)) := by
  refine ⟨i + 1, hv, hn, ?_, ?_, ?_⟩
  · exact row_far (w := wr.drewN m) r (p := ⟨g', i, none⟩) (by show g ≠ g'; omega) _
  · refine (RowB.set (w := wr.drewN m) r' i b).congr (fun j hj => ?_)
    by_cases e : j = i
    · subst e; simp [hb]
    · by_cases hlt : j < i
      · simp [e, hlt, show j < i + 1 by omega]
      · simp [e, hlt, show ¬ j < i + 1 by omega]
  · exact (hC.drewN m).setCell (fun hl => absurd hl (by simp; omega)) _
theorem InRel.skip {w wr : World} {s : ByteArray} {g g' : Nat} {f h : Nat → Bool} {n i : Nat} (hn : i + 1 + n = s.size + 1) (r : RowB wr g f s.size) (r' : RowB wr g' (fun j => if j < i then h j else false) s.size) (hC : Chg (fun _ => False) w wr)
    (hb : h i = false) (v : Value) (hv : v = .int .i64 ((i + 1 : Nat) : Int)) : InRel w s g g' f h n v wr := by
  refine ⟨i + 1, hv, hn, r, r'.congr (fun j hj => ?_), hC⟩
  by_cases e : j = i
  · subst e; simp [hb]
  · by_cases hlt : j < i
    · simp [hlt, show j < i + 1 by omega]
    · simp [hlt, show ¬ j < i + 1 by omega]

theorem still_of_quiet {P : Program} {o : Oper} {a : Act} {w : World} {K : Act → Prop} (h : o.quiet P a (fun w' => w' = w) K) : o.still P a w K := by
  obtain ⟨v, h, hk⟩ := h
  have h1 := h w rfl
  unfold Oper.quietAt at h1
  unfold Oper.still
  generalize (execOp a.eval o).run P w = r at h1 ⊢
  unfold Oper.quietUpon at h1
  split at h1
  · obtain ⟨rfl, rfl⟩ := h1; exact ⟨rfl, hk⟩
  · obtain ⟨rfl, rfl⟩ := h1; exact ⟨rfl, hk⟩
  · obtain ⟨rfl, h2⟩ := h1; exact ⟨rfl, _, h2, hk⟩
  · exact h1.elim
theorem wpStill_of_quiet {P : Program} {ops : Array Oper} {w : World} {Q : Act → Prop} : ∀ (l : List Oper) (a : Act), wpQuiet P ops (fun w' => w' = w) Q l a → wpStill P ops w Q l a
  | [], _, h => h
  | o :: l, a, h => by
    unfold wpQuiet at h
    unfold wpStill
    split
    · rename_i hw
      rw [if_pos hw] at h
      exact still_of_quiet (Oper.quiet_mono (fun a' h' => wpStill_of_quiet l a' h') h)
    · rename_i hw
      rw [if_neg hw] at h
      exact wpStill_of_quiet l _ h
/-- A region that reads, and acts at its end alone: by the cheap step. -/
theorem still_tail3 {P : Program} {id : Nat} {Q : Exit → Act → World → Prop} {a : Act} {w : World} {l : List Oper} (n : Nat) (hm : P.follows .mixedOrders = true) (hB : Region.lexTailB .any l.toArray n = true)
    (h : wpQuiet P l.toArray (fun w' => w' = w.drew) (fun a' => wpList P l.toArray Q (l.drop n) a' w.drew) (l.take n) a) : (Code.region id l.toArray true).wp P Q a w := still_tail2 n hm hB (wpStill_of_quiet _ _ h)
set_option pp.deepTerms true in
set_option pp.maxSteps 200000 in
set_option maxRecDepth 100000 in
set_option maxHeartbeats 8000000 in
theorem Reach_calls (p s : ByteArray) (w : World) (hp : p.size ≤ 1000000) (hs : s.size ≤ 1000000) :
    Calls Try.prog 21 #[.string p, .string s] w fun e w' => (∃ g, e = .returned (.slice (some ⟨g, 0, none⟩) (s.size + 1) (s.size + 1)) ∧ w'.cell? ⟨g, s.size, none⟩ = some (.bool (matchB p.data.toList s.data.toList))) ∧ Chg (fun _ => False) w w' := by
  have hR := reach_all s.data.toList (cutL p.data.toList)
  rw [len_data] at hR
  unfold matchB
  revert hR
  generalize fitsL (cutL p.data.toList) s.data.toList = RF
  intro hR
  have HR0 : Hid (reachR s.data.toList (cutF (p.size + 1) p.data.toList) (fun i => i == 0) s.size = RF) := Lib.hid (by rw [← hR, cutL, len_data])
  clear hR
  have hmk := run_make_bools s.size hs
  have hr0 : RowB (w.alloc (.cells (boolRow (fun _ => false) s.size) 4)) w.heap.size (fun _ => false) s.size := row_new w _
  have k0 := hr0.cell 0 (by omega)
  have k1 := hr0.free 0
  have HR1 : Hid (RowB (w.alloc (.cells ((boolRow (fun _ => false) s.size).setIfInBounds 0 (.bool true)) 4)) w.heap.size (fun i => i == 0) s.size) := Lib.hid (by
    rw [boolRow_set]
    exact RowB.congr (row_new w _) (fun i _ => by cases i <;> simp))
  clear hr0
  have q0 : (0 : Int) < (s.size : Int) + 1 := by omega
  go_enter Try.func21, Try.ntmps21
  go_wp2
  clear k0 k1
  go_loopg [5, 6] (p.size + 1) (ReachRel w p s RF)
  case atStart => exact ⟨w.heap.size, 0, _, rfl, rfl, by omega, by omega, HR1.out, Nat.le_refl _, HR0, (Chg.refl _ _).alloc _⟩
  case round =>
    obtain ⟨g, a, f, rfl, rfl, ha, hn, hrow, hg, HF, hC⟩ := hrel
    by_cases hlt : a < p.size
    · obtain ⟨gn, hgk⟩ : ∃ n, gk = n + 1 := ⟨gk - 1, by omega⟩
      subst hgk
      have p1 : (a : Int) < (p.size : Int) := by omega
      go_wp2_with fail
      refine Calls.mono (part_calls p a _ hlt (by omega)) ?_
      rintro e w1 ⟨⟨x, to, rfl, hto1, hto2, hcut, hx⟩, m, rfl⟩
      have HCUT := Lib.hid (hcut gn); clear hcut
      obtain ⟨gk', hgk⟩ : ∃ n, n = gn + 1 + a - p.size := ⟨_, rfl⟩
      have HGK : Hid (p.size < gn + to) := Lib.hid (by omega)
      clear hgk
      have hr1 : RowB ((wr.drewN m).alloc (.cells (boolRow (fun _ => false) s.size) 4)) g f s.size := row_alloc (w := wr.drewN m) hrow _
      have hgl : g < wr.heap.size := row_lt hrow
      have hr2 : RowB ((wr.drewN m).alloc (.cells (boolRow (fun _ => false) s.size) 4)) wr.heap.size (fun _ => false) s.size := row_new (wr.drewN m) _
      have hC2 : Chg (fun _ => False) w ((wr.drewN m).alloc (.cells (boolRow (fun _ => false) s.size) 4)) := (hC.drewN m).alloc _
      have hwz := hC.size
      obtain ⟨g', hg'⟩ : ∃ g', wr.heap.size = g' := ⟨_, rfl⟩
      have HX := Lib.hid hx
      clear hrow hC hx
      go_wp2_with fail
      rw [hg'] at hr2 hgl hwz
      have HG' := Lib.hid hg'
      clear hg'
      revert hC2
      revert hr2
      revert hr1
      generalize ((wr.drewN m).alloc (.cells (boolRow (fun _ => false) s.size) 4)) = w2
      intro hr1 hr2 hC2
      cases x with
      | star =>
        simp only [Piece.kind, Piece.byte?]
        go_loopg [11] (s.size + 1) (InRel w s g g' f (stepR s.data.toList .star f))
        case atStart => exact ⟨0, rfl, by omega, hr1, hr2.congr (fun j _ => by simp), hC2⟩
        case round =>
          clear hr1 hr2 hC2
          obtain ⟨i, rfl, hi, hr1, hr2, hCi⟩ := hrel
          by_cases hli : i ≤ s.size
          · have r1 : (i : Int) ≤ (s.size : Int) := by omega
            have hc0 := hr1.cell i hli
            have hc1 := hr2.free i
            have hck := hr2.cell i hli
            have r2 : (i : Int) < (s.size : Int) + 1 := by omega
            have r3 : (0 : Int) ≤ (i : Int) := by omega
            have r4 : (i : Int) ≤ (s.size : Int) + 1 := by omega
            have hSS := step_star s.data.toList f i
            cases hfi : f i
            case true =>
              rw [hfi] at hc0 hSS
              have HN := Lib.hid (InRel.next (n := gk - 1) true (by omega) hr1 hr2 hCi hgl (by omega) (by rw [hSS]; rfl) 0)
              clear hSS hfi hr1 hr2
              go_wp2
              go_roundg (gk - 1)
              case measure => omega
              case rel => exact HN.out _ (by go_num)
            case false =>
              rw [hfi] at hc0 hSS
              by_cases h0 : i = 0
              · have r5 : decide ((0 : Int) < (i : Int)) = false := by rw [decide_eq_false_iff_not]; omega
                have r5' : decide (0 < i) = false := by rw [decide_eq_false_iff_not]; omega
                have HN := Lib.hid (InRel.next (n := gk - 1) false (by omega) hr1 hr2 hCi hgl (by omega) (by rw [hSS, r5']; rfl) 0)
                clear hSS hfi hr1 hr2 h0
                go_wp2
                go_roundg (gk - 1)
                case measure => omega
                case rel => exact HN.out _ (by go_num)
              · obtain ⟨j, rfl⟩ : ∃ j, i = j + 1 := ⟨i - 1, by omega⟩
                have r2 : (((j + 1 : Nat) : Int) == 0) = false := by simp; omega
                have r2' : ((j : Int) + 1 == 0) = false := by simp; omega
                have r3 : (0 : Int) ≤ (j : Int) := by omega
                have r4 : (j : Int) < (s.size : Int) + 1 := by omega
                have k0 := hr1.cell j (by omega)
                have r5 : (0 : Int) < (j : Int) + 1 := by omega
                have hcp := hr2.cell j (by omega)
                simp only [show j < j + 1 by omega, if_true] at hcp
                cases hst : stepR s.data.toList .star f j
                case true =>
                  rw [hst] at hcp
                  have HN := Lib.hid (InRel.next (n := gk - 1) true (by omega) hr1 hr2 hCi hgl (by omega) (by rw [hSS, Nat.add_sub_cancel, hst]; simp) 0)
                  clear hSS hfi hr1 hr2 h0 hst
                  go_wp2
                  go_roundg (gk - 1)
                  case measure => omega
                  case rel => exact HN.out _ (by go_num)
                case false =>
                  rw [hst] at hcp
                  have HN := Lib.hid (InRel.next (n := gk - 1) false (by omega) hr1 hr2 hCi hgl (by omega) (by rw [hSS, Nat.add_sub_cancel, hst]; simp) 0)
                  clear hSS hfi hr1 hr2 h0 hst
                  go_wp2
                  go_roundg (gk - 1)
                  case measure => omega
                  case rel => exact HN.out _ (by go_num)
          · have r1 : decide ((i : Int) ≤ (s.size : Int)) = false := by rw [decide_eq_false_iff_not]; omega
            have r1' : decide (i ≤ s.size) = false := by rw [decide_eq_false_iff_not]; omega
            have hg2 : w.heap.size ≤ g' := by omega
            have HR2 := Lib.hid (hr2.congr (h := stepR s.data.toList .star f) (fun j hj => by simp [show j < i by omega]))
            have HR1 := Lib.hid hr1; clear hr1 hr2 hi hli
            go_wp2
            go_roundg gn
            case measure => have := HGK.out; omega
            case rel => exact ⟨g', to, _, rfl, rfl, hto2, by have := HGK.out; omega, HR2.out, hg2, Lib.hid (by rw [← HF.out, HCUT.out]; rfl), hCi⟩
      | any =>
        simp only [Piece.kind, Piece.byte?]
        go_loopg [11] (s.size + 1) (InRel w s g g' f (stepR s.data.toList .any f))
        case atStart => exact ⟨0, rfl, by omega, hr1, hr2.congr (fun j _ => by simp), hC2⟩
        case round =>
          clear hr1 hr2 hC2
          obtain ⟨i, rfl, hi, hr1, hr2, hCi⟩ := hrel
          by_cases hli : i ≤ s.size
          · have r1 : (i : Int) ≤ (s.size : Int) := by omega
            by_cases h0 : i = 0
            · have HN := Lib.hid (InRel.skip (n := gk - 1) (by omega) hr1 hr2 hCi (by rw [h0]; exact step_zero _ .any rfl f))
              have r5 : ((i : Int) == 0) = true := by simp; omega
              clear hr1 hr2 h0
              go_wp2
              go_roundg (gk - 1)
              case measure => omega
              case rel => exact HN.out _ (by go_num)
            · obtain ⟨j, rfl⟩ : ∃ j, i = j + 1 := ⟨i - 1, by omega⟩
              have r2 : (((j + 1 : Nat) : Int) == 0) = false := by simp; omega
              have r2' : ((j : Int) + 1 == 0) = false := by simp; omega
              have r3 : (0 : Int) ≤ (j : Int) := by omega
              have r4 : (j : Int) < (s.size : Int) + 1 := by omega
              have k0 := hr1.cell j (by omega)
              cases hfj : f j
              case false =>
                rw [hfj] at k0
                have HN := Lib.hid (InRel.skip (n := gk - 1) (by omega) hr1 hr2 hCi (step_off _ .any rfl f j hfj))
                clear hr1 hr2 h0 hfj
                go_wp2
                go_roundg (gk - 1)
                case measure => omega
                case rel => exact HN.out _ (by go_num)
              case true =>
                rw [hfj] at k0
                have hjl : j < s.size := by omega
                have HS : s.data.toList[j]? = some s[j] := by rw [List.getElem?_eq_getElem (by rw [len_data]; exact hjl)]; rfl
                have HN := Lib.hid (fun m => InRel.next (n := gk - 1) (oneL .any s[j]) (by omega) hr1 hr2 hCi hgl (by omega) (step_on _ .any rfl f j _ hfj HS) m)
                have hc1 := hr2.free (j + 1)
                have hck := hr2.cell (j + 1) hli
                have r6 : IntKind.i64.wrap ((j : Int) + 1 - 1) = (j : Int) := by rw [show (j : Int) + 1 - 1 = (j : Int) by omega]; exact IntWalk.i64_in _ (by omega)
                have r7 : (j : Int) + 1 < (s.size : Int) + 1 := by omega
                have r8 : (0 : Int) ≤ (j : Int) + 1 := by omega
                have r9 : ((j : Int) + 1).toNat = j + 1 := by omega
                have r10 : (j : Int) < (s.size : Int) := by omega
                clear hr1 hr2 h0 hfj HS
                go_wp2
                refine still_tail3 34 (by kernel_rfl) (by kernel_rfl) ?_
                simp only [List.take_succ_cons, List.take_zero, List.drop_succ_cons, List.drop_zero]
                repeat (go_big_quiet_step (fail))
                refine wpQuiet_nil ?_
                clear r6 r9
                go_wp2
                go_roundg (gk - 1)
                case measure => omega
                case rel => exact HN.out 1 _ (by go_num)
          · have r1 : decide ((i : Int) ≤ (s.size : Int)) = false := by rw [decide_eq_false_iff_not]; omega
            have r1' : decide (i ≤ s.size) = false := by rw [decide_eq_false_iff_not]; omega
            have hg2 : w.heap.size ≤ g' := by omega
            have HR2 := Lib.hid (hr2.congr (h := stepR s.data.toList .any f) (fun j hj => by simp [show j < i by omega]))
            have HR1 := Lib.hid hr1; clear hr1 hr2 hi hli
            go_wp2
            go_roundg gn
            case measure => have := HGK.out; omega
            case rel => exact ⟨g', to, _, rfl, rfl, hto2, by have := HGK.out; omega, HR2.out, hg2, Lib.hid (by rw [← HF.out, HCUT.out]; rfl), hCi⟩
      | set t =>
        simp only [Piece.kind, Piece.byte?]
        go_loopg [11] (s.size + 1) (InRel w s g g' f (stepR s.data.toList (.set t) f))
        case atStart => exact ⟨0, rfl, by omega, hr1, hr2.congr (fun j _ => by simp), hC2⟩
        case round =>
          clear hr1 hr2 hC2
          obtain ⟨i, rfl, hi, hr1, hr2, hCi⟩ := hrel
          by_cases hli : i ≤ s.size
          · have r1 : (i : Int) ≤ (s.size : Int) := by omega
            by_cases h0 : i = 0
            · have HN := Lib.hid (InRel.skip (n := gk - 1) (by omega) hr1 hr2 hCi (by rw [h0]; exact step_zero _ (.set t) rfl f))
              have r5 : ((i : Int) == 0) = true := by simp; omega
              clear hr1 hr2 h0
              go_wp2
              go_roundg (gk - 1)
              case measure => omega
              case rel => exact HN.out _ (by go_num)
            · obtain ⟨j, rfl⟩ : ∃ j, i = j + 1 := ⟨i - 1, by omega⟩
              have r2 : (((j + 1 : Nat) : Int) == 0) = false := by simp; omega
              have r2' : ((j : Int) + 1 == 0) = false := by simp; omega
              have r3 : (0 : Int) ≤ (j : Int) := by omega
              have r4 : (j : Int) < (s.size : Int) + 1 := by omega
              have k0 := hr1.cell j (by omega)
              cases hfj : f j
              case false =>
                rw [hfj] at k0
                have HN := Lib.hid (InRel.skip (n := gk - 1) (by omega) hr1 hr2 hCi (step_off _ (.set t) rfl f j hfj))
                clear hr1 hr2 h0 hfj
                go_wp2
                go_roundg (gk - 1)
                case measure => omega
                case rel => exact HN.out _ (by go_num)
              case true =>
                rw [hfj] at k0
                have hjl : j < s.size := by omega
                have HS : s.data.toList[j]? = some s[j] := by rw [List.getElem?_eq_getElem (by rw [len_data]; exact hjl)]; rfl
                have HN := Lib.hid (fun m => InRel.next (n := gk - 1) (oneL (.set t) s[j]) (by omega) hr1 hr2 hCi hgl (by omega) (step_on _ (.set t) rfl f j _ hfj HS) m)
                have hc1 := hr2.free (j + 1)
                have hck := hr2.cell (j + 1) hli
                have r6 : IntKind.i64.wrap ((j : Int) + 1 - 1) = (j : Int) := by rw [show (j : Int) + 1 - 1 = (j : Int) by omega]; exact IntWalk.i64_in _ (by omega)
                have r7 : (j : Int) + 1 < (s.size : Int) + 1 := by omega
                have r8 : (0 : Int) ≤ (j : Int) + 1 := by omega
                have r9 : ((j : Int) + 1).toNat = j + 1 := by omega
                have r10 : (j : Int) < (s.size : Int) := by omega
                clear hr1 hr2 h0 hfj HS
                obtain ⟨hx1, hx2⟩ := HX.out
                have s0 : (0 : Int) ≤ (a : Int) + 1 := by omega
                have s1 : (a : Int) + 1 ≤ (to : Int) - 1 := by omega
                have s2 : (to : Int) - 1 ≤ (p.size : Int) := by omega
                have s3 : IntKind.i64.wrap ((a : Int) + 1) = (a : Int) + 1 := IntWalk.i64_in _ (by omega)
                have s4 : IntKind.i64.wrap ((to : Int) - 1) = (to : Int) - 1 := IntWalk.i64_in _ (by omega)
                have s5 : ((a : Int) + 1).toNat = a + 1 := by omega
                have s6 : ((to : Int) - 1).toNat = to - 1 := by omega
                have hone : oneL (.set t) s[j] = inL t s[j] := rfl
                have hcall0 := fun w => In_calls (p.extract (a + 1) (to - 1)) s[j] w (by simp only [ByteArray.size_extract]; omega)
                rw [hx2, bstr_toList, ← hx2] at hcall0
                cases hcb : inL t s[j]
                case true =>
                  rw [hcb] at hcall0 hone
                  rw [hone] at HN
                  have hcall : ∀ w, Calls Try.prog 29 #[.string (p.extract (a + 1) (to - 1)), .int .u8 s[j].toNat] w (fun e w' => e = .returned (.bool true) ∧ w' = w) := fun w => (hcall0 w).mono (fun _ _ h => ⟨h.1, h.2.symm⟩)
                  clear hcb hone hx2 hcall0
                  go_wp2
                  refine still_tail3 34 (by kernel_rfl) (by kernel_rfl) ?_
                  simp only [List.take_succ_cons, List.take_zero, List.drop_succ_cons, List.drop_zero]
                  repeat (first | go_big_quiet_step (fail) | (go_big_quiet_want; go_big_quiet_op; refine ⟨_, hcall _, ?_⟩; go_big_quiet_on))
                  refine wpQuiet_nil ?_
                  clear r6 r9
                  go_wp2
                  go_roundg (gk - 1)
                  case measure => omega
                  case rel => exact HN.out 1 _ (by go_num)
                case false =>
                  rw [hcb] at hcall0 hone
                  rw [hone] at HN
                  have hcall : ∀ w, Calls Try.prog 29 #[.string (p.extract (a + 1) (to - 1)), .int .u8 s[j].toNat] w (fun e w' => e = .returned (.bool false) ∧ w' = w) := fun w => (hcall0 w).mono (fun _ _ h => ⟨h.1, h.2.symm⟩)
                  clear hcb hone hx2 hcall0
                  go_wp2
                  refine still_tail3 34 (by kernel_rfl) (by kernel_rfl) ?_
                  simp only [List.take_succ_cons, List.take_zero, List.drop_succ_cons, List.drop_zero]
                  repeat (first | go_big_quiet_step (fail) | (go_big_quiet_want; go_big_quiet_op; refine ⟨_, hcall _, ?_⟩; go_big_quiet_on))
                  refine wpQuiet_nil ?_
                  clear r6 r9
                  go_wp2
                  go_roundg (gk - 1)
                  case measure => omega
                  case rel => exact HN.out 1 _ (by go_num)
          · have r1 : decide ((i : Int) ≤ (s.size : Int)) = false := by rw [decide_eq_false_iff_not]; omega
            have r1' : decide (i ≤ s.size) = false := by rw [decide_eq_false_iff_not]; omega
            have hg2 : w.heap.size ≤ g' := by omega
            have HR2 := Lib.hid (hr2.congr (h := stepR s.data.toList (.set t) f) (fun j hj => by simp [show j < i by omega]))
            have HR1 := Lib.hid hr1; clear hr1 hr2 hi hli
            go_wp2
            go_roundg gn
            case measure => have := HGK.out; omega
            case rel => exact ⟨g', to, _, rfl, rfl, hto2, by have := HGK.out; omega, HR2.out, hg2, Lib.hid (by rw [← HF.out, HCUT.out]; rfl), hCi⟩
      | byte c =>
        simp only [Piece.kind, Piece.byte?]
        go_loopg [11] (s.size + 1) (InRel w s g g' f (stepR s.data.toList (.byte c) f))
        case atStart => exact ⟨0, rfl, by omega, hr1, hr2.congr (fun j _ => by simp), hC2⟩
        case round =>
          clear hr1 hr2 hC2
          obtain ⟨i, rfl, hi, hr1, hr2, hCi⟩ := hrel
          by_cases hli : i ≤ s.size
          · have r1 : (i : Int) ≤ (s.size : Int) := by omega
            by_cases h0 : i = 0
            · have HN := Lib.hid (InRel.skip (n := gk - 1) (by omega) hr1 hr2 hCi (by rw [h0]; exact step_zero _ (.byte c) rfl f))
              have r5 : ((i : Int) == 0) = true := by simp; omega
              clear hr1 hr2 h0
              go_wp2
              go_roundg (gk - 1)
              case measure => omega
              case rel => exact HN.out _ (by go_num)
            · obtain ⟨j, rfl⟩ : ∃ j, i = j + 1 := ⟨i - 1, by omega⟩
              have r2 : (((j + 1 : Nat) : Int) == 0) = false := by simp; omega
              have r2' : ((j : Int) + 1 == 0) = false := by simp; omega
              have r3 : (0 : Int) ≤ (j : Int) := by omega
              have r4 : (j : Int) < (s.size : Int) + 1 := by omega
              have k0 := hr1.cell j (by omega)
              cases hfj : f j
              case false =>
                rw [hfj] at k0
                have HN := Lib.hid (InRel.skip (n := gk - 1) (by omega) hr1 hr2 hCi (step_off _ (.byte c) rfl f j hfj))
                clear hr1 hr2 h0 hfj
                go_wp2
                go_roundg (gk - 1)
                case measure => omega
                case rel => exact HN.out _ (by go_num)
              case true =>
                rw [hfj] at k0
                have hjl : j < s.size := by omega
                have HS : s.data.toList[j]? = some s[j] := by rw [List.getElem?_eq_getElem (by rw [len_data]; exact hjl)]; rfl
                have HN := Lib.hid (fun m => InRel.next (n := gk - 1) (oneL (.byte c) s[j]) (by omega) hr1 hr2 hCi hgl (by omega) (step_on _ (.byte c) rfl f j _ hfj HS) m)
                have hc1 := hr2.free (j + 1)
                have hck := hr2.cell (j + 1) hli
                have r6 : IntKind.i64.wrap ((j : Int) + 1 - 1) = (j : Int) := by rw [show (j : Int) + 1 - 1 = (j : Int) by omega]; exact IntWalk.i64_in _ (by omega)
                have r7 : (j : Int) + 1 < (s.size : Int) + 1 := by omega
                have r8 : (0 : Int) ≤ (j : Int) + 1 := by omega
                have r9 : ((j : Int) + 1).toNat = j + 1 := by omega
                have r10 : (j : Int) < (s.size : Int) := by omega
                clear hr1 hr2 h0 hfj HS
                have hq := byte_eq s[j] c
                have hone : oneL (.byte c) s[j] = (s[j] == c) := by show (c == s[j]) = _; exact Bool.beq_comm
                cases hcb : s[j] == c
                case true =>
                  rw [hcb] at hq hone
                  rw [hone] at HN
                  clear hcb hone
                  go_wp2
                  refine still_tail3 34 (by kernel_rfl) (by kernel_rfl) ?_
                  simp only [List.take_succ_cons, List.take_zero, List.drop_succ_cons, List.drop_zero]
                  repeat (go_big_quiet_step (fail))
                  refine wpQuiet_nil ?_
                  clear r6 r9
                  go_wp2
                  go_roundg (gk - 1)
                  case measure => omega
                  case rel => exact HN.out 1 _ (by go_num)
                case false =>
                  rw [hcb] at hq hone
                  rw [hone] at HN
                  clear hcb hone
                  go_wp2
                  refine still_tail3 34 (by kernel_rfl) (by kernel_rfl) ?_
                  simp only [List.take_succ_cons, List.take_zero, List.drop_succ_cons, List.drop_zero]
                  repeat (go_big_quiet_step (fail))
                  refine wpQuiet_nil ?_
                  clear r6 r9
                  go_wp2
                  go_roundg (gk - 1)
                  case measure => omega
                  case rel => exact HN.out 1 _ (by go_num)
          · have r1 : decide ((i : Int) ≤ (s.size : Int)) = false := by rw [decide_eq_false_iff_not]; omega
            have r1' : decide (i ≤ s.size) = false := by rw [decide_eq_false_iff_not]; omega
            have hg2 : w.heap.size ≤ g' := by omega
            have HR2 := Lib.hid (hr2.congr (h := stepR s.data.toList (.byte c) f) (fun j hj => by simp [show j < i by omega]))
            have HR1 := Lib.hid hr1; clear hr1 hr2 hi hli
            go_wp2
            go_roundg gn
            case measure => have := HGK.out; omega
            case rel => exact ⟨g', to, _, rfl, rfl, hto2, by have := HGK.out; omega, HR2.out, hg2, Lib.hid (by rw [← HF.out, HCUT.out]; rfl), hCi⟩
    · have p1 : decide ((a : Int) < (p.size : Int)) = false := by rw [decide_eq_false_iff_not]; omega
      have p1' : decide (a < p.size) = false := by rw [decide_eq_false_iff_not]; omega
      have HF2 : Hid (f s.size = RF) := Lib.hid (by
        rw [← HF.out, drop_end p a hlt]
        cases gk <;> rfl)
      have HC := Lib.hid (hrow.cell s.size (Nat.le_refl _))
      clear hn hlt ha hrow
      go_wp2
      go_ret
      exact ⟨⟨g, rfl, by rw [HC.out, HF2.out]⟩, hC⟩
end Go.Proofs.Ytbjejnegfojnmaa
