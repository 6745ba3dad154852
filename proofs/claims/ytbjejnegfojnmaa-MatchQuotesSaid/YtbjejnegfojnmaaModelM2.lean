/- Why going back to the last star alone is enough. -/
import Derived.Test.YtbjejnegfojnmaaModelM
namespace Go.Proofs.Ytbjejnegfojnmaa

/-- A later place for the last star. -/
def Alt (l : List Piece) (s : Bytes) (a f : Nat) : Prop := ∃ j, f < j ∧ j ≤ s.length ∧ fitsL (l.drop (a + 1)) (s.drop j) = true
/-- Midway: i pieces and k bytes are passed; st: the last star and where it ended. -/
def Inv (l : List Piece) (s : Bytes) (R : Bool) (i k : Nat) (st : Option (Nat × Nat)) : Prop :=
  i ≤ l.length ∧ k ≤ s.length ∧ match st with
    | none => (R = true ↔ fitsL (l.drop i) (s.drop k) = true)
    | some (a, f) => a < i ∧ k = f + (i - (a + 1)) ∧ (∀ x ∈ (l.drop (a + 1)).take (i - (a + 1)), x.isStar = false) ∧ (R = true ↔ fitsL (l.drop i) (s.drop k) = true ∨ Alt l s a f)

theorem inv_start (l : List Piece) (s : Bytes) : Inv l s (fitsL l s) 0 0 none := ⟨by omega, by omega, by simp⟩

theorem drop_some {α : Type} {l : List α} {i : Nat} {x : α} (h : l[i]? = some x) : l.drop i = x :: l.drop (i + 1) := by
  obtain ⟨h1, rfl⟩ := List.getElem?_eq_some_iff.1 h
  exact List.drop_eq_getElem_cons h1

theorem inv_star {l : List Piece} {s : Bytes} {R : Bool} {i k : Nat} {st : Option (Nat × Nat)} (h : Inv l s R i k st) (hi : l[i]? = some .star) : Inv l s R (i + 1) k (some (i, k)) := by
  obtain ⟨h1, h2, h3⟩ := h
  have hlt := (List.getElem?_eq_some_iff.1 hi).1
  have hd := drop_some hi
  have key : fitsL (l.drop i) (s.drop k) = true ↔ fitsL (l.drop (i + 1)) (s.drop k) = true ∨ Alt l s i k := by
    rw [hd, fits_star]
    constructor
    · rintro ⟨j, hj, h⟩
      rw [List.drop_drop] at h
      cases j with
      | zero => exact .inl h
      | succ j =>
        rw [List.length_drop] at hj
        exact .inr ⟨k + (j + 1), by omega, by omega, h⟩
    · rintro (h | ⟨j, hj, hj2, h⟩)
      · exact ⟨0, by omega, by simpa using h⟩
      · refine ⟨j - k, by rw [List.length_drop]; omega, ?_⟩
        rw [List.drop_drop, show k + (j - k) = j by omega]
        exact h
  refine ⟨by omega, h2, by omega, by omega, by simp, ?_⟩
  cases st with
  | none => exact h3.trans key
  | some p =>
    obtain ⟨a, f⟩ := p
    obtain ⟨ha, hk, hs, hR⟩ := h3
    rw [hR]
    constructor
    · rintro (h | ⟨j, hj, hj2, h⟩)
      · exact key.1 h
      · -- what an older star could do, this one can
        have hsplit : l.drop (a + 1) = (l.drop (a + 1)).take (i - (a + 1)) ++ l.drop i := by
          have := (List.take_append_drop (i - (a + 1)) (l.drop (a + 1))).symm
          rwa [List.drop_drop, show a + 1 + (i - (a + 1)) = i by omega] at this
        rw [hsplit] at h
        have hlen : ((l.drop (a + 1)).take (i - (a + 1))).length = i - (a + 1) := by simp; omega
        obtain ⟨g1, g2⟩ := fits_seg _ _ _ hs h
        rw [hlen] at g1 g2
        rw [List.length_drop] at g1
        rw [List.drop_drop, hd, fits_star] at g2
        obtain ⟨j2, hj3, g3⟩ := g2
        rw [List.length_drop] at hj3
        rw [List.drop_drop] at g3
        exact .inr ⟨j + (i - (a + 1)) + j2, by omega, by omega, g3⟩
    · intro h
      exact .inl (key.2 h)

theorem fits_one {l : List Piece} {s : Bytes} {i k : Nat} {x : Piece} {c : UInt8} (hi : l[i]? = some x) (hk : s[k]? = some c) (hx : x.isStar = false) :
    fitsL (l.drop i) (s.drop k) = (oneL x c && fitsL (l.drop (i + 1)) (s.drop (k + 1))) := by
  rw [drop_some hi, drop_some hk]
  cases x with
  | star => simp [Piece.isStar] at hx
  | any => rw [fitsL]; simp
  | set t => rw [fitsL]; simp
  | byte d => rw [fitsL]; simp

theorem inv_one {l : List Piece} {s : Bytes} {R : Bool} {i k : Nat} {st : Option (Nat × Nat)} (h : Inv l s R i k st) {x : Piece} {c : UInt8} (hi : l[i]? = some x) (hk : s[k]? = some c) (hx : x.isStar = false) (ho : oneL x c = true) :
    Inv l s R (i + 1) (k + 1) st := by
  obtain ⟨h1, h2, h3⟩ := h
  have hlt := (List.getElem?_eq_some_iff.1 hi).1
  have hlt2 := (List.getElem?_eq_some_iff.1 hk).1
  have hf := fits_one hi hk hx
  rw [ho, Bool.true_and] at hf
  refine ⟨by omega, by omega, ?_⟩
  cases st with
  | none => rw [← hf]; exact h3
  | some p =>
    obtain ⟨a, f⟩ := p
    obtain ⟨ha, hk', hs, hR⟩ := h3
    refine ⟨by omega, by omega, ?_, by rw [← hf]; exact hR⟩
    intro y hy
    rw [show i + 1 - (a + 1) = (i - (a + 1)) + 1 by omega, List.take_add_one, List.mem_append] at hy
    rcases hy with hy | hy
    · exact hs y hy
    · rw [List.getElem?_drop, show a + 1 + (i - (a + 1)) = i by omega, hi] at hy
      simp at hy
      rw [hy]; exact hx

/-- Here no byte fits: the pieces are at their end, or the piece doesn't take it. -/
def Stuck (l : List Piece) (s : Bytes) (i k : Nat) : Prop := ∃ c, s[k]? = some c ∧ (l[i]? = none ∨ ∃ x, l[i]? = some x ∧ x.isStar = false ∧ oneL x c = false)
theorem stuck_false {l : List Piece} {s : Bytes} {i k : Nat} (h : Stuck l s i k) : fitsL (l.drop i) (s.drop k) = false := by
  obtain ⟨c, hc, h | ⟨x, hi, hx, ho⟩⟩ := h
  · rw [List.drop_eq_nil_of_le (by simpa using h), drop_some hc, fitsL]; rfl
  · rw [fits_one hi hc hx, ho]; rfl
theorem inv_fail {l : List Piece} {s : Bytes} {R : Bool} {i k : Nat} (h : Inv l s R i k none) (hs : Stuck l s i k) : R = false := by
  have := h.2.2
  simp only [stuck_false hs, Bool.false_eq_true, iff_false] at this
  simpa using this
theorem inv_back {l : List Piece} {s : Bytes} {R : Bool} {i k a f : Nat} (h : Inv l s R i k (some (a, f))) (hs : Stuck l s i k) : Inv l s R (a + 1) (f + 1) (some (a, f + 1)) := by
  obtain ⟨h1, h2, ha, hk, hseg, hR⟩ := h
  have hlt : k < s.length := by obtain ⟨c, hc, _⟩ := hs; exact (List.getElem?_eq_some_iff.1 hc).1
  refine ⟨by omega, by omega, by omega, by omega, by simp, ?_⟩
  rw [hR, stuck_false hs]
  constructor
  · rintro (h | ⟨j, hj, hj2, h⟩)
    · simp at h
    · by_cases e : j = f + 1
      · subst e; exact .inl h
      · exact .inr ⟨j, by omega, hj2, h⟩
  · rintro (h | ⟨j, hj, hj2, h⟩)
    · exact .inr ⟨f + 1, by omega, by omega, h⟩
    · exact .inr ⟨j, by omega, hj2, h⟩
theorem fits_end : ∀ l : List Piece, fitsL l [] = l.all Piece.isStar
  | [] => by rw [fitsL]; rfl
  | x :: l => by
    cases x with
    | star => rw [fitsL, fits_end l]; rfl
    | any => simp [fitsL, Piece.isStar]
    | set t => simp [fitsL, Piece.isStar]
    | byte c => simp [fitsL, Piece.isStar]
theorem inv_end {l : List Piece} {s : Bytes} {R : Bool} {i k : Nat} {st : Option (Nat × Nat)} (h : Inv l s R i k st) (hk : k = s.length) : R = (l.drop i).all Piece.isStar := by
  obtain ⟨h1, h2, h3⟩ := h
  have he : fitsL (l.drop i) (s.drop k) = (l.drop i).all Piece.isStar := by rw [hk, List.drop_length, fits_end]
  rw [← he, Bool.eq_iff_iff]
  cases st with
  | none => exact h3
  | some p =>
    obtain ⟨a, f⟩ := p
    obtain ⟨ha, hk', hs, hR⟩ := h3
    rw [hR]
    constructor
    · rintro (h | ⟨j, hj, hj2, h⟩)
      · exact h
      · have hsplit : l.drop (a + 1) = (l.drop (a + 1)).take (i - (a + 1)) ++ l.drop i := by
          have := (List.take_append_drop (i - (a + 1)) (l.drop (a + 1))).symm
          rwa [List.drop_drop, show a + 1 + (i - (a + 1)) = i by omega] at this
        rw [hsplit] at h
        have hlen : ((l.drop (a + 1)).take (i - (a + 1))).length = i - (a + 1) := by simp; omega
        obtain ⟨g1, _⟩ := fits_seg _ _ _ hs h
        rw [hlen, List.length_drop] at g1
        omega
    · exact fun h => .inl h
end Go.Proofs.Ytbjejnegfojnmaa
