/- Walks of package word: the scanner's smaller methods. -/
import Derived.Test.YtdfnkmiabmjolaaW2
import Derived.Test.YtdfnkmiabmjolaaW5
namespace Go.Proofs.Ytdfnkmiabmjolaa
open Go.RowKit
set_option linter.unusedVariables false
set_option linter.unusedSimpArgs false

theorem ScanAt.cells {w : World} {g : Nat} {s : ByteArray} {a d : Int} (h : ScanAt w g s a d) :
    w.cell? ⟨g, 0, none⟩ = some (.string s) ∧ w.cell? ⟨g, 1, none⟩ = some (.int .i64 a) ∧ w.cell? ⟨g, 2, none⟩ = some (.int .i64 d) ∧ w.frozen? ⟨g, 1, none⟩ = false ∧ w.frozen? ⟨g, 2, none⟩ = false ∧ g < w.heap.size := by
  unfold ScanAt at h
  refine ⟨?_, ?_, ?_, ?_, ?_, (Array.getElem?_eq_some_iff.1 h).1⟩
  · rw [cell_of_row _ _ _ _ _ _ h]; rfl
  · rw [cell_of_row _ _ _ _ _ _ h]; rfl
  · rw [cell_of_row _ _ _ _ _ _ h]; rfl
  · simp [World.frozen?, h]
  · simp [World.frozen?, h]
theorem ScanAt.at' {w : World} {g : Nat} {s : ByteArray} {a d : Int} (h : ScanAt w g s a d) (a' : Int) : ScanAt (w.setCell ⟨g, 1, none⟩ (.int .i64 a')) g s a' d := by
  unfold ScanAt at *
  simp [World.setCell, Array.getElem?_modify, h]
theorem ScanAt.deep' {w : World} {g : Nat} {s : ByteArray} {a d : Int} (h : ScanAt w g s a d) (d' : Int) : ScanAt (w.setCell ⟨g, 2, none⟩ (.int .i64 d')) g s a d' := by
  unfold ScanAt at *
  simp [World.setCell, Array.getElem?_modify, h]
theorem ScanAt.chg {B : Nat → Prop} {w w' : World} {g : Nat} {s : ByteArray} {a d : Int} (h : ScanAt w g s a d) (hc : Chg B w w') (hn : ¬ B g) : ScanAt w' g s a d := by
  have hl := h.cells.2.2.2.2.2
  unfold ScanAt at *
  rw [hc.block g hl hn]; exact h

/-- A fault, as it is thrown. -/
def faultV (k : Nat) (c : Int) : List PanicEntry := [{ v := .iface 57 (.agg #[.int .i64 k, .int .i64 c]), recovered := false }]
/-- What a method of the scanner comes to. 'val': what is told of the value that is handed back. -/
def ScanPost {α : Type} (w : World) (g : Nat) (s : ByteArray) (deep : Int) (R : Rs α) (B : Nat → Prop) (val : α → Value → World → Prop) (e : Ending) (w' : World) : Prop :=
  match R with
  | .ok a rest => ∃ v k, e = .returned v ∧ k ≤ s.size ∧ rest = s.data.toList.drop k ∧ val a v w' ∧ ScanAt w' g s (k : Nat) deep ∧ Chg (fun j => j = g ∨ B j) w w'
  | .err left c => ∃ k : Nat, k ≤ s.size ∧ left = s.size - k ∧ e = .panicked (faultV k c) ∧ Chg (fun j => j = g ∨ B j) w w'

def isAt (l : Bytes) (n : Nat) (c : UInt8) : Bool := match l.drop n with | d :: _ => d == c | [] => false

set_option maxRecDepth 100000 in
set_option maxHeartbeats 1000000 in
theorem is_calls (g : Nat) (s : ByteArray) (a : Nat) (d : Int) (n : Nat) (c : UInt8) (w : World) (h : ScanAt w g s a d) (ha : a ≤ s.size) (hs : s.size ≤ 8192) (hn : n ≤ 1) :
    Calls Try.prog 57 #[.pointer (some ⟨g, 0, none⟩), .int .i64 n, .int .u8 c.toNat] w fun e w' => e = .returned (.bool (isAt (s.data.toList.drop a) n c)) ∧ ∃ m, w.drewN m = w' := by
  obtain ⟨h0, h1, h2, _, _, _⟩ := h.cells
  by_cases hlt : a + n < s.size
  · have hd := byte_drop s (a + n) hlt
    have hm : isAt (s.data.toList.drop a) n c = (s[a + n] == c) := by rw [isAt, List.drop_drop, hd]
    have HM := Lib.hid hm; clear hm hd
    have hb := byte_eq s[a + n] c
    go_enter Try.func57, Try.ntmps57
    go_wp2
    have e3 : (0 : Int) ≤ (a : Int) + (n : Int) := by omega
    have e4 : (a : Int) + (n : Int) < (s.size : Int) := by omega
    have e5 : a + n < s.size := hlt
    go_quiet (fail)
    go_wp2
    go_ret
    exact ⟨ret_bool HM.out.symm, _, rfl⟩
  · have hm : isAt (s.data.toList.drop a) n c = false := by rw [isAt, List.drop_drop, drop_end s _ hlt]
    have HM := Lib.hid hm; clear hm
    have e4 : decide ((a : Int) + (n : Int) < (s.size : Int)) = false := by simp; omega
    go_enter Try.func57, Try.ntmps57
    go_wp2
    go_quiet (fail)
    go_wp2
    go_ret
    exact ⟨ret_bool HM.out.symm, _, rfl⟩

/-- The cells' facts of a scanner, laid. -/
theorem lit_rep (w : World) (s : Bytes) (q : Bool) : Rep w (fun _ => False) (Part.d (lit s q)) [.int .i64 1, .bool q, .string (bstr s), .string ⟨#[]⟩, .slice none 0 0] :=
  part_rep.2 ⟨_, rfl, none, 0, [], rfl, Nat.le_refl _, by simp [maxLen], by simp [Rd], rfl⟩

theorem extract_bstr (s : ByteArray) (a b : Nat) : s.extract a b = bstr ((s.data.toList.drop a).take (b - a)) := by
  rw [← Lib.extract_data, bstr_of]
theorem extract_one (s : ByteArray) (a : Nat) (h : a < s.size) : s.extract a (a + 1) = bstr [s[a]] := by
  rw [extract_bstr, byte_drop s a h, show a + 1 - a = 1 by omega]
  rfl
theorem bstr_inj {a b : Bytes} : bstr a = bstr b ↔ a = b := ⟨fun h => by have := congrArg (fun x : ByteArray => x.data.toList) h; simpa [bstr] using this, fun h => by rw [h]⟩

set_option maxRecDepth 100000 in
set_option maxHeartbeats 2000000 in
theorem escape_calls (g : Nat) (s : ByteArray) (a : Nat) (d : Int) (S : Nat → Prop) (v : Value) (l : List Part) (w : World) (h : ScanAt w g s a d) (ha : a < s.size) (hs : s.size ≤ 8192)
    (HO : Own w S 35 5 v (Part.ds l)) (hg : ¬ S g) (hw : Part.wts l ≤ 900000) :
    Calls Try.prog 35 #[.pointer (some ⟨g, 0, none⟩), v] w
      (ScanPost w g s d (escape l (s.data.toList.drop a)) (fun j => some j = v.ownBlock) fun l' v' w' => Own w' (fun k => S k ∨ w.heap.size ≤ k) 35 5 v' (Part.ds l') ∧ AtOr v v' w) := by
  obtain ⟨h0, h1, h2, f1, _, hlt⟩ := h.cells
  have hd := byte_drop s a ha
  by_cases hl : a + 1 < s.size
  · have hd2 := byte_drop s (a + 1) hl
    have hE : escape l (s.data.toList.drop a) = .ok (if s[a + 1] == 10 then l else add l (lit [s[a + 1]] true)) (s.data.toList.drop (a + 2)) := by rw [hd, hd2]; rfl
    have hx := extract_one s (a + 1) hl
    have hx10 : ((bstr [s[a + 1]]).toList == [10]) = (s[a + 1] == 10) := by rw [ByteArray.toList_eq, bstr_toList]; simp
    clear hd hd2
    generalize s[a + 1] = c at *
    have e1 : ((a : Int) + 1 == (s.size : Int)) = false := by simp; omega
    have e2 : (0 : Int) ≤ (a : Int) + 1 := by omega
    have e3 : (a : Int) + 1 ≤ (a : Int) + 2 := by omega
    have e4 : (a : Int) + 2 ≤ (s.size : Int) := by omega
    cases h10 : c == 10
    case true =>
      rw [h10] at hx10
      have hE' : escape l (s.data.toList.drop a) = .ok l (s.data.toList.drop (a + 2)) := by rw [hE, h10]; rfl
      rw [hE']
      clear hE hE'
      go_enter Try.func35, Try.ntmps35
      go_wp2
      go_quiet (fail)
      go_wp2
      go_quiet (fail)
      go_wp2
      go_ret
      exact ⟨v, a + 2, rfl, by omega, rfl, ⟨(HO.stay (((Chg.refl (· = g) _).drewN _).setCell (fun _ => rfl) _) (by rintro k hk rfl; exact hg hk)).mono (fun _ h _ => .inl h), .inl rfl⟩, h.at' _, ((Chg.refl _ _).drewN _).setCell (fun _ => .inl rfl) _⟩
    case false =>
      rw [h10] at hx10
      have hE' : escape l (s.data.toList.drop a) = .ok (add l (lit [c] true)) (s.data.toList.drop (a + 2)) := by rw [hE, h10]; rfl
      rw [hE']
      clear hE hE'
      go_enter Try.func35, Try.ntmps35
      go_wp2
      go_quiet (fail)
      go_wp2
      go_quiet (fail)
      go_wp2_with fail
      refine (lit_calls _ _ _).mono ?_
      rintro e w1 ⟨rfl, hb1⟩
      go_wp2_with fail
      have hc1 := Chg.of_below hb1
      have hC1 : Chg (· = g) w w1 := (((Chg.refl (· = g) _).drewN _).setCell (fun _ => rfl) _).trans hc1 (fun _ h _ => h.elim)
      have hA1 : ScanAt w1 g s ((a + 2 : Nat) : Int) d := (ScanAt.at' (w := w.drewN _) h ((a + 2 : Nat) : Int)).chg hc1 (fun e => e)
      refine (add_calls w1 S (fun _ => False) v l (lit [c] true) _ (HO.stay hC1 (by rintro k hk rfl; exact hg hk)) (lit_rep _ _ _) (fun _ h _ => h.elim) (by simp [lit, Part.wt, Part.wts]; omega)).mono ?_
      rintro e w2 ⟨v2, rfl, hO2, hc2, hat⟩
      have hz := hC1.size
      go_wp2
      go_ret
      exact ⟨v2, a + 2, rfl, by omega, rfl, ⟨hO2.mono (fun k h _ => h.imp id (fun h => by omega)), hat.imp id (fun ⟨b, h1, h2⟩ => ⟨b, h1, by omega⟩)⟩, hA1.chg hc2 (fun e => hg (HO.block e.symm)), (hC1.mono (fun k e _ => Or.inl e)).trans hc2 (fun k e _ => .inr e)⟩
  · have hE : escape l (s.data.toList.drop a) = .err 1 60 := by
      rw [hd, drop_end s (a + 1) hl]; rfl
    rw [hE]
    have HE := Lib.hid hE; clear hE hd
    have e1 : ((a : Int) + 1 == (s.size : Int)) = true := by simp; omega
    go_enter Try.func35, Try.ntmps35
    go_wp2
    go_quiet (fail)
    go_wp2_with (go_at_call 36; refine (fail_calls _ _ _ _).mono ?_; rintro e w1 ⟨rfl, rfl⟩)
    exact ⟨rfl, a, by omega, by omega, rfl, (Chg.refl _ _).drewN _⟩
end Go.Proofs.Ytdfnkmiabmjolaa
