/- Walks of package match and its reference: Plain. -/
import Derived.Test.YtbjejnegfojnmaaM21
namespace Go.Proofs.Ytbjejnegfojnmaa
open Go.RowKit
set_option linter.unusedVariables false
set_option linter.unusedSimpArgs false

/-- The two results of Plain. -/
def plainS (R : Option Bytes) : ByteArray := match R with | none => ⟨#[]⟩ | some l => bstr l
theorem map_nil_app (R : Option Bytes) : R.map (fun l => ([] : Bytes) ++ l) = R := by cases R <;> rfl
theorem plain_byte (c : UInt8) (l0 : Bytes) (ps : List Piece) : (plainP (.byte c :: ps)).map (fun l => l0 ++ l) = (plainP ps).map (fun l => (l0 ++ [c]) ++ l) := by
  rw [plainP]
  cases plainP ps <;> simp
theorem plain_not (x : Piece) (ps : List Piece) (h : ∀ c, x ≠ .byte c) : plainP (x :: ps) = none := by
  cases x with
  | byte c => exact absurd rfl (h c)
  | star => rfl
  | any => rfl
  | set t => rfl

set_option maxRecDepth 100000 in
set_option maxHeartbeats 2000000 in
theorem RPlain_calls (p : ByteArray) (w : World) (hp : p.size ≤ 100000) :
    Calls Try.prog 17 #[.string p] w fun e w' => e = .returned (.tuple #[.string (plainS (plainL p.data.toList)), .bool (plainL p.data.toList).isSome]) ∧ ∃ m, w' = w.drewN m := by
  generalize hR : plainL p.data.toList = R
  have HR : Hid ((plainP (cutF (p.size + 1) (p.data.toList.drop 0))).map (fun l => ([] : Bytes) ++ l) = R) := Lib.hid (by rw [map_nil_app, ← hR, plainL, cutL, len_data]; rfl)
  clear hR
  go_enter Try.func17, Try.ntmps17
  go_wp2
  go_loopg [4, 5] (p.size + 1) (fun n ov av wr => ∃ (a : Nat) (l0 : Bytes), av = .int .i64 a ∧ ov = .string (bstr l0) ∧ a ≤ p.size ∧ p.size < n + a ∧ l0.length ≤ a ∧ Hid ((plainP (cutF n (p.data.toList.drop a))).map (fun l => l0 ++ l) = R) ∧ ∃ m, wr = w.drewN m)
  case atStart => exact ⟨0, [], rfl, rfl, by omega, by omega, by simp, HR, 0, rfl⟩
  case round =>
    obtain ⟨a, l0, rfl, rfl, ha, hn, hl0, HF, m, rfl⟩ := hrel
    by_cases hlt : a < p.size
    · obtain ⟨gn, rfl⟩ : ∃ n, gk = n + 1 := ⟨gk - 1, by omega⟩
      have p1 : (a : Int) < (p.size : Int) := by omega
      go_wp2_with fail
      refine Calls.mono (part_calls p a _ hlt (by omega)) ?_
      rintro e w1 ⟨⟨x, to, rfl, hto1, hto2, hcut, hx⟩, m2, rfl⟩
      have HCUT := Lib.hid (hcut gn); clear hcut
      cases x with
      | byte c =>
        have HX := Lib.hid hx; clear hx
        simp only [Piece.kind, Piece.byte?]
        have r0 : (0 : Int) ≤ (to : Int) - 1 := by omega
        have r0' : (1 : Int) ≤ (to : Int) := by omega
        have r1 : (to : Int) - 1 ≤ (to : Int) := by omega
        have r2 : (to : Int) ≤ (p.size : Int) := by omega
        have r3 : ((to : Int) - 1).toNat = to - 1 := by omega
        have hz : (bstr l0).size ≤ 100000 := by rw [bstr_size]; omega
        have HF2 : Hid ((plainP (cutF gn (p.data.toList.drop to))).map (fun l => (l0 ++ [c]) ++ l) = R) := Lib.hid (by rw [← HF.out, HCUT.out, plain_byte])
        have HL : Hid ((l0 ++ [c]).length ≤ to ∧ p.size < gn + to) := Lib.hid (by simp; omega)
        go_wp2
        go_roundg gn
        case measure => omega
        case rel => exact ⟨to, l0 ++ [c], rfl, by rw [HX.out, bstr_append], hto2, HL.out.2, HL.out.1, HF2, m + m2, by first | rfl | rw [World.drewN_drewN]⟩
      | star =>
        have HF2 : Hid (R = none) := Lib.hid (by rw [← HF.out, HCUT.out, plain_not _ _ (fun c h => by cases h)]; rfl)
        simp only [Piece.kind, Piece.byte?]
        go_wp2
        go_ret2
        exact ⟨by rw [HF2.out]; rfl, m + m2, by first | rfl | rw [World.drewN_drewN]⟩
      | any =>
        have HF2 : Hid (R = none) := Lib.hid (by rw [← HF.out, HCUT.out, plain_not _ _ (fun c h => by cases h)]; rfl)
        simp only [Piece.kind, Piece.byte?]
        go_wp2
        go_ret2
        exact ⟨by rw [HF2.out]; rfl, m + m2, by first | rfl | rw [World.drewN_drewN]⟩
      | set t =>
        have HF2 : Hid (R = none) := Lib.hid (by rw [← HF.out, HCUT.out, plain_not _ _ (fun c h => by cases h)]; rfl)
        clear hx
        simp only [Piece.kind, Piece.byte?]
        go_wp2
        go_ret2
        exact ⟨by rw [HF2.out]; rfl, m + m2, by first | rfl | rw [World.drewN_drewN]⟩
    · have p1 : decide ((a : Int) < (p.size : Int)) = false := by rw [decide_eq_false_iff_not]; omega
      have p1' : decide (a < p.size) = false := by rw [decide_eq_false_iff_not]; omega
      have HF2 : Hid (R = some l0) := Lib.hid (by
        rw [← HF.out, drop_end p a hlt]
        cases gk <;> simp [cutF, plainP])
      clear hn
      go_wp2
      go_ret2
      exact ⟨by rw [HF2.out]; rfl, m, rfl⟩

set_option maxRecDepth 100000 in
set_option maxHeartbeats 2000000 in
theorem Plain_calls (p : ByteArray) (w : World) (hp : p.size ≤ 100000) :
    Calls Try.prog 16 #[.string p] w fun e w' => e = .returned (.tuple #[.string (plainS (plainL p.data.toList)), .bool (plainL p.data.toList).isSome]) ∧ Chg (fun _ => False) w w' := by
  have hl := cutL_len p.data.toList
  rw [len_data] at hl
  unfold plainL
  generalize hR : plainP (cutL p.data.toList) = R
  have HR : Hid ((plainP ((cutL p.data.toList).drop 0)).map (fun l => ([] : Bytes) ++ l) = R) := Lib.hid (by rw [map_nil_app, ← hR]; rfl)
  clear hR
  have hb0 := bv_new w
  have hC0 : Chg (fun _ => False) w (w.alloc (.cells #[.pointer none, .slice none 0 0] 39)) := (Chg.refl _ _).alloc _
  have hcut := cut_calls p (w.alloc (.cells #[.pointer none, .slice none 0 0] 39)) (by omega)
  go_enter Try.func16, Try.ntmps16
  go_wp2_with fail
  refine Calls.mono hcut ?_
  rintro e w1 ⟨v, rfl, HO, hC⟩
  obtain ⟨A, cc, hv, hc1, hc2⟩ := Own.form HO
  rw [List.length_map] at hv hc1
  subst hv
  have HV := HO.rep.bound
  have hz := hC.size
  rw [World.size_alloc] at hz
  have hb1 := (hb0 w1.heap.size).stay hC (fun e => e) (fun _ _ e => e)
  have hCw := hC0.trans hC (fun _ h _ => h)
  clear HO hb0 hC0 hC hcut
  generalize cutL p.data.toList = L at *
  simp only [maxLen] at hc2
  go_wp2_with fail
  go_loopg [10] L.length (fun n iv wr => ∃ (i : Nat) (v : Value) (l0 : Bytes), iv = .int .i64 i ∧ i + n = L.length ∧ l0.length ≤ i ∧ BV w1.heap.size w.heap.size v l0 wr ∧ Hid ((plainP (L.drop i)).map (fun l => l0 ++ l) = R) ∧ Chg (fun k => k = w.heap.size ∨ w1.heap.size ≤ k) w1 wr)
  case atStart => exact ⟨0, _, [], rfl, by omega, by simp, hb1, HR, Chg.refl _ _⟩
  case round =>
    clear hb1
    obtain ⟨i, v, l0, rfl, hi, hl0, HB, HF, hCr⟩ := hrel
    have hzr := hCr.size
    by_cases hlt : i < L.length
    · have p0 : (0 : Int) ≤ (i : Int) := by omega
      have p1 : (i : Int) < (L.length : Int) := by omega
      have hxi : L[i]? = some L[i] := List.getElem?_eq_getElem hlt
      generalize L[i] = x at *
      have hvw := HV.stay hCr (fun k hk e => by
        have hk1 := hk.1
        rw [World.size_alloc] at hk1
        rcases e with e | e
        · omega
        · have := hk.2; omega)
      obtain ⟨b, o, c', cs, hv', _, _, _, hr, _, hcs⟩ := sl_get hvw (by omega) i x.d (by rw [List.getElem?_map, hxi]; rfl)
      simp only [List.length_map, Value.slice.injEq] at hv'
      obtain ⟨rfl, _, rfl⟩ := hv'
      obtain rfl := piece_rep.1 hr
      have g0 := hcs 0 _ rfl
      have g1 := hcs 1 _ rfl
      simp only [Nat.add_zero, ← Nat.add_assoc] at g0 g1
      have HFX : Hid ((plainP (x :: L.drop (i + 1))).map (fun l => l0 ++ l) = R) := Lib.hid (by rw [← HF.out, drop_some hxi])
      clear hcs hr hvw hxi
      have hB2 : BV w1.heap.size w.heap.size v l0 (wr.alloc (.cells #[.int .u8 x.k, .string (bstr x.t)] 46)) := HB.stay ((Chg.refl (fun _ => False) wr).alloc _) (fun e => e) (fun _ _ e => e)
      have hC2 := hCr.alloc (.cells #[.int .u8 x.k, .string (bstr x.t)] 46)
      cases x with
      | byte c =>
        simp only [Piece.k, Piece.t] at *
        have HF2 : Hid ((plainP (L.drop (i + 1))).map (fun l => (l0 ++ [c]) ++ l) = R) := Lib.hid (by rw [← HFX.out, plain_byte])
        go_wp2_with fail
        refine Calls.mono (WriteString_calls _ _ v l0 (bstr [c]) _ hB2 (by omega) (by rw [bstr_size]; simp) (by simp; omega)) ?_
        rintro e w3 ⟨rfl, v1, HB1, hC3⟩
        rw [bstr_toList] at HB1
        have hC4 : Chg (fun k => k = w.heap.size ∨ w1.heap.size ≤ k) w1 w3 := hC2.trans hC3 (fun k h hl => by
          rcases h with h | h
          · exact .inl h
          · exact .inr (HB.own k h.symm).1)
        go_wp2
        go_roundg (gk - 1)
        case measure => omega
        case rel => exact ⟨i + 1, v1, l0 ++ [c], by go_num, by omega, by simp; omega, HB1, HF2, hC4⟩
      | star =>
        simp only [Piece.k, Piece.t] at *
        have HF2 : Hid (R = none) := Lib.hid (by rw [← HFX.out, plain_not _ _ (fun c h => by cases h)]; rfl)
        go_wp2
        go_ret2
        exact ⟨by rw [HF2.out]; rfl, hCw.trans hC2 (fun k h hl => by rcases h with h | h <;> omega)⟩
      | any =>
        simp only [Piece.k, Piece.t] at *
        have HF2 : Hid (R = none) := Lib.hid (by rw [← HFX.out, plain_not _ _ (fun c h => by cases h)]; rfl)
        go_wp2
        go_ret2
        exact ⟨by rw [HF2.out]; rfl, hCw.trans hC2 (fun k h hl => by rcases h with h | h <;> omega)⟩
      | set t =>
        simp only [Piece.k, Piece.t] at *
        have HF2 : Hid (R = none) := Lib.hid (by rw [← HFX.out, plain_not _ _ (fun c h => by cases h)]; rfl)
        go_wp2
        go_ret2
        exact ⟨by rw [HF2.out]; rfl, hCw.trans hC2 (fun k h hl => by rcases h with h | h <;> omega)⟩
    · have p1 : decide ((i : Int) < (L.length : Int)) = false := by rw [decide_eq_false_iff_not]; omega
      have p1' : decide (i < L.length) = false := by rw [decide_eq_false_iff_not]; omega
      have HF2 : Hid (R = some l0) := Lib.hid (by rw [← HF.out, List.drop_eq_nil_of_le (by omega)]; simp [plainP])
      clear hi hlt
      go_wp2_with fail
      refine Calls.mono (Try.Builder_String_any w.heap.size w.heap.size _ _ (HB.bat (Nat.le_refl _) (by omega)) (by omega)) ?_
      rintro e w2 ⟨rfl, hb2⟩
      have hCe := hCw.trans hCr (fun k h hl => by rcases h with h | h <;> omega)
      go_wp2
      go_ret2
      exact ⟨by rw [HF2.out]; rfl, ⟨hb2.os.trans hCe.os, hb2.tape.trans hCe.tape, hb2.output.trans hCe.output, Nat.le_trans hCe.size hb2.size, fun k hk _ => (hb2.block k hk).trans (hCe.block k hk (fun e => e))⟩⟩
end Go.Proofs.Ytbjejnegfojnmaa
