/- The document's answer, all beginnings at once: the same. -/
import Derived.Test.YtbjejnegfojnmaaModelM2
namespace Go.Proofs.Ytbjejnegfojnmaa

/-- One piece more: which beginnings fit. -/
def stepR (s : Bytes) (x : Piece) (now : Nat → Bool) : Nat → Bool :=
  if x.isStar then fun i => (List.range (i + 1)).any now
  else fun i => match i with | 0 => false | j + 1 => now j && (match s[j]? with | some c => oneL x c | none => false)
def reachR (s : Bytes) (l : List Piece) (now : Nat → Bool) : Nat → Bool := l.foldl (fun w x => stepR s x w) now

theorem reach_fits (s : Bytes) : ∀ (l : List Piece) (now : Nat → Bool), reachR s l now s.length = true ↔ ∃ i, i ≤ s.length ∧ now i = true ∧ fitsL l (s.drop i) = true
  | [], now => by
    show now s.length = true ↔ _
    constructor
    · intro h; exact ⟨s.length, Nat.le_refl _, h, by simp [fitsL]⟩
    · rintro ⟨i, hi, hn, h⟩
      have : i = s.length := by
        rw [fitsL, List.isEmpty_iff, List.drop_eq_nil_iff] at h
        omega
      exact this ▸ hn
  | x :: l, now => by
    show reachR s l (stepR s x now) s.length = true ↔ _
    rw [reach_fits s l (stepR s x now)]
    cases hx : x.isStar with
    | true =>
      have e : x = .star := by cases x <;> simp_all [Piece.isStar]
      subst e
      constructor
      · rintro ⟨i, hi, hn, h⟩
        rw [stepR, if_pos hx, List.any_eq_true] at hn
        obtain ⟨j, hj, hn⟩ := hn
        rw [List.mem_range] at hj
        refine ⟨j, by omega, hn, ?_⟩
        rw [fits_star]
        exact ⟨i - j, by rw [List.length_drop]; omega, by rw [List.drop_drop, show j + (i - j) = i by omega]; exact h⟩
      · rintro ⟨j, hj, hn, h⟩
        rw [fits_star] at h
        obtain ⟨k, hk, h⟩ := h
        rw [List.length_drop] at hk
        rw [List.drop_drop] at h
        refine ⟨j + k, by omega, ?_, h⟩
        rw [stepR, if_pos hx, List.any_eq_true]
        exact ⟨j, by rw [List.mem_range]; omega, hn⟩
    | false =>
      constructor
      · rintro ⟨i, hi, hn, h⟩
        rw [stepR, hx, if_neg (by simp)] at hn
        cases i with
        | zero => simp at hn
        | succ j =>
          have hj : j < s.length := by omega
          simp only [List.getElem?_eq_getElem hj, Bool.and_eq_true] at hn
          refine ⟨j, by omega, hn.1, ?_⟩
          have := fits_one (l := x :: l) (i := 0) (x := x) rfl (List.getElem?_eq_getElem hj) hx
          simp only [List.drop_zero, Nat.zero_add, List.drop_succ_cons] at this
          rw [this, hn.2, h]; rfl
      · rintro ⟨j, hj, hn, h⟩
        by_cases hl : j < s.length
        · have := fits_one (l := x :: l) (i := 0) (x := x) rfl (List.getElem?_eq_getElem hl) hx
          simp only [List.drop_zero, Nat.zero_add, List.drop_succ_cons] at this
          rw [this, Bool.and_eq_true] at h
          refine ⟨j + 1, by omega, ?_, h.2⟩
          rw [stepR, hx, if_neg (by simp)]
          simp only [List.getElem?_eq_getElem hl, hn, h.1]
          rfl
        · rw [List.drop_eq_nil_of_le (by omega)] at h
          cases x <;> simp_all [fitsL, Piece.isStar]
theorem reach_all (s : Bytes) (l : List Piece) : reachR s l (fun i => i == 0) s.length = fitsL l s := by
  rw [Bool.eq_iff_iff, reach_fits]
  constructor
  · rintro ⟨i, _, hn, h⟩
    have : i = 0 := by simpa using hn
    subst this
    simpa using h
  · intro h
    exact ⟨0, by omega, rfl, by simpa using h⟩
end Go.Proofs.Ytbjejnegfojnmaa
