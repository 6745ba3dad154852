/- What the laws of package match need, in plain Lean. -/
import Derived.Test.YtbjejnegfojnmaaModelM3
namespace Go.Proofs.Ytbjejnegfojnmaa

/-- Fits, as all of it: the pattern's bytes and the text's. -/
def matchB (p s : Bytes) : Bool := fitsL (cutL p) s

/-- Cut, from the i-th try on. -/
def cutGo (l : List Piece) (s : Bytes) (e m : Bool) : Nat → Nat → Bytes
  | 0, _ => s
  | f + 1, i =>
    if e then (if fitsL l (s.drop (s.length - (if m then s.length - i else i))) then s.take (s.length - (if m then s.length - i else i)) else cutGo l s e m f (i + 1))
    else (if fitsL l (s.take (if m then s.length - i else i)) then s.drop (if m then s.length - i else i) else cutGo l s e m f (i + 1))
def cutAll (p s : Bytes) (e m : Bool) : Bytes := cutGo (cutL p) s e m (s.length + 1) 0

theorem cutGo_spec (l : List Piece) (s : Bytes) (m : Bool) : ∀ f i, i + f = s.length + 1 →
    (cutGo l s false m f i = s ∧ ∀ j, i ≤ j → j ≤ s.length → fitsL l (s.take (if m then s.length - j else j)) = false) ∨
    ∃ j, i ≤ j ∧ j ≤ s.length ∧ cutGo l s false m f i = s.drop (if m then s.length - j else j) ∧ fitsL l (s.take (if m then s.length - j else j)) = true ∧ ∀ j', i ≤ j' → j' < j → fitsL l (s.take (if m then s.length - j' else j')) = false
  | 0, i, h => .inl ⟨rfl, fun j h1 h2 => by omega⟩
  | f + 1, i, h => by
    cases hf : fitsL l (s.take (if m then s.length - i else i)) with
    | true => exact .inr ⟨i, Nat.le_refl _, by omega, by rw [cutGo]; simp [hf], hf, fun j' h1 h2 => by omega⟩
    | false =>
      have e : cutGo l s false m (f + 1) i = cutGo l s false m f (i + 1) := by rw [cutGo]; simp [hf]
      rw [e]
      rcases cutGo_spec l s m f (i + 1) (by omega) with ⟨h1, h2⟩ | ⟨j, h1, h2, h3, h4, h5⟩
      · refine .inl ⟨h1, fun j hj hl => ?_⟩
        by_cases e : j = i
        · subst e; exact hf
        · exact h2 j (by omega) hl
      · refine .inr ⟨j, by omega, h2, h3, h4, fun j' hj hl => ?_⟩
        by_cases e : j' = i
        · subst e; exact hf
        · exact h5 j' (by omega) hl

/-- What the law MatchShort asks. -/
theorem cutAll_short (p s : Bytes) (m : Bool) : ∃ n, n ≤ s.length ∧ cutAll p s false m = s.drop n ∧ (n = 0 ∨ matchB p (s.take n) = true) ∧
    ∀ k, k ≤ s.length → matchB p (s.take k) = true → (m && decide (k > n) || !m && decide (k < n)) = false := by
  rcases cutGo_spec (cutL p) s m (s.length + 1) 0 (by omega) with ⟨h1, h2⟩ | ⟨j, h1, h2, h3, h4, h5⟩
  · refine ⟨0, by omega, h1, .inl rfl, fun k hk hf => ?_⟩
    cases m with
    | true =>
      have := h2 (s.length - k) (by omega) (by omega)
      simp only [if_true, show s.length - (s.length - k) = k by omega] at this
      rw [matchB, this] at hf
      cases hf
    | false =>
      have := h2 k (by omega) hk
      simp only [Bool.false_eq_true, if_false] at this
      rw [matchB, this] at hf
      cases hf
  · refine ⟨if m then s.length - j else j, by split <;> omega, h3, .inr h4, fun k hk hf => ?_⟩
    cases m with
    | true =>
      simp only [if_true]
      by_cases hgt : s.length - j < k
      · have := h5 (s.length - k) (by omega) (by omega)
        simp only [if_true, show s.length - (s.length - k) = k by omega] at this
        rw [matchB, this] at hf
        cases hf
      · simp; omega
    | false =>
      by_cases hlt : k < j
      · have := h5 k (by omega) hlt
        simp only [Bool.false_eq_true, if_false] at this
        rw [matchB, this] at hf
        cases hf
      · simp; omega

theorem fits_snoc_star : ∀ (l : List Piece) (s : Bytes), fitsL (l ++ [.star]) s = true ↔ ∃ k, k ≤ s.length ∧ fitsL l (s.take k) = true
  | [], s => by
    rw [List.nil_append, fits_star]
    constructor
    · intro _; exact ⟨0, by omega, by simp [fitsL]⟩
    · intro _; exact ⟨s.length, by omega, by simp [fitsL]⟩
  | x :: l, s => by
    cases hx : x.isStar with
    | true =>
      have e : x = .star := by cases x <;> simp_all [Piece.isStar]
      subst e
      rw [List.cons_append, fits_star]
      constructor
      · rintro ⟨i, hi, h⟩
        obtain ⟨k, hk, h⟩ := (fits_snoc_star l (s.drop i)).1 h
        rw [List.length_drop] at hk
        refine ⟨i + k, by omega, (fits_star _ _).2 ⟨i, by simp; omega, ?_⟩⟩
        rw [List.drop_take, show i + k - i = k by omega]
        exact h
      · rintro ⟨k, hk, h⟩
        obtain ⟨i, hi, h⟩ := (fits_star _ _).1 h
        rw [List.length_take] at hi
        refine ⟨i, by omega, (fits_snoc_star l (s.drop i)).2 ⟨k - i, by rw [List.length_drop]; omega, ?_⟩⟩
        rwa [List.drop_take] at h
    | false =>
      cases s with
      | nil =>
        constructor
        · intro h; cases x <;> simp_all [fitsL, Piece.isStar]
        · rintro ⟨k, hk, h⟩; cases x <;> simp_all [fitsL, Piece.isStar]
      | cons c s =>
        have e1 : fitsL (x :: l ++ [Piece.star]) (c :: s) = (oneL x c && fitsL (l ++ [Piece.star]) s) := fits_one (l := x :: (l ++ [Piece.star])) (s := c :: s) (i := 0) (k := 0) rfl rfl hx
        rw [e1, Bool.and_eq_true, fits_snoc_star l s]
        constructor
        · rintro ⟨h0, k, hk, h⟩
          refine ⟨k + 1, by simp; omega, ?_⟩
          have e2 : fitsL (x :: l) (c :: s.take k) = (oneL x c && fitsL l (s.take k)) := fits_one (l := x :: l) (s := c :: s.take k) (i := 0) (k := 0) rfl rfl hx
          rw [List.take_succ_cons, e2, h0, h]
          rfl
        · rintro ⟨k, hk, h⟩
          cases k with
          | zero => cases x <;> simp_all [fitsL, Piece.isStar]
          | succ k =>
            have e2 : fitsL (x :: l) (c :: s.take k) = (oneL x c && fitsL l (s.take k)) := fits_one (l := x :: l) (s := c :: s.take k) (i := 0) (k := 0) rfl rfl hx
            rw [List.take_succ_cons, e2, Bool.and_eq_true] at h
            exact ⟨h.1, k, by simpa using hk, h.2⟩

theorem cutF_more : ∀ (n m : Nat) (p : Bytes), p.length < n → p.length < m → cutF n p = cutF m p
  | 0, _, p, h, _ => by omega
  | _, 0, p, _, h => by omega
  | n + 1, m + 1, [], _, _ => rfl
  | n + 1, m + 1, c :: r, h1, h2 => by
    simp only [List.length_cons] at h1 h2
    have hd : ∀ k, (r.drop k).length ≤ r.length := fun k => by simp
    simp only [cutF]
    rw [cutF_more n m r (by omega) (by omega)]
    split
    · rfl
    split
    · rfl
    split
    · cases r with
      | nil => rfl
      | cons d r' => simp only [List.length_cons] at h1 h2; show Piece.byte d :: cutF n r' = Piece.byte d :: cutF m r'; rw [cutF_more n m r' (by omega) (by omega)]
    split
    · cases setL r with
      | none => rfl
      | some k => have := hd (k - 1); simp only []; rw [cutF_more n m (r.drop (k - 1)) (by omega) (by omega)]
    · rfl

theorem cutF_snoc : ∀ (n : Nat) (p : Bytes), p.length < n → 91 ∉ p → p.getLast? ≠ some 92 → cutF (n + 1) (p ++ [42]) = cutF n p ++ [.star]
  | 0, p, h, _, _ => by omega
  | n + 1, [], _, _, _ => by simp [cutF]
  | n + 1, c :: r, h, h91, hl => by
    simp only [List.length_cons] at h
    have hc : (c == 91) = false := by
      rw [beq_eq_false_iff_ne]
      rintro rfl
      exact h91 (by simp)
    have hr : 91 ∉ r := fun h => h91 (by simp [h])
    have hlr : r ≠ [] → r.getLast? ≠ some 92 := by
      intro hne e
      apply hl
      cases r with
      | nil => exact absurd rfl hne
      | cons d r' => simpa [List.getLast?_cons_cons] using e
    have hlr' : r.getLast? ≠ some 92 := by
      by_cases e : r = []
      · subst e; simp
      · exact hlr e
    have ih := cutF_snoc n r (by omega) hr hlr'
    rw [List.cons_append]
    unfold cutF
    rw [ih, hc]
    split
    · rfl
    split
    · rfl
    split
    · rename_i h92
      cases r with
      | nil => exact absurd (by simp [show c = 92 by simpa using h92]) hl
      | cons d r' =>
        have hr' : 91 ∉ r' := fun h => hr (by simp [h])
        have hl' : r'.getLast? ≠ some 92 := by
          cases r' with
          | nil => simp
          | cons d' r'' => simpa [List.getLast?_cons_cons] using hlr'
        simp only [List.length_cons] at h
        have ih' := cutF_snoc n r' (by omega) hr' hl'
        simp only [List.cons_append]
        rw [ih']
    · rfl

theorem cutL_stars (p : Bytes) (h91 : 91 ∉ p) (hl : p.getLast? ≠ some 92) : cutL (42 :: p ++ [42]) = .star :: cutL p ++ [.star] := by
  have h1 := cutF_snoc (p.length + 1) p (by omega) h91 hl
  have e0 : cutL (42 :: p ++ [42]) = cutF (p.length + 2 + 1) (42 :: p ++ [42]) := by
    unfold cutL
    congr 1
    simp
  rw [e0]
  rw [List.cons_append]
  have e : cutF (p.length + 2 + 1) (42 :: (p ++ [42])) = .star :: cutF (p.length + 2) (p ++ [42]) := rfl
  rw [e, h1]
  rfl

/-- What the law MatchStars asks. -/
theorem match_stars (p s : Bytes) (h91 : 91 ∉ p) (hl : p.getLast? ≠ some 92) :
    matchB (42 :: p ++ [42]) s = true ↔ ∃ i k, i ≤ k ∧ k ≤ s.length ∧ matchB p ((s.drop i).take (k - i)) = true := by
  unfold matchB
  rw [cutL_stars p h91 hl, List.cons_append, fits_star]
  constructor
  · rintro ⟨i, hi, h⟩
    obtain ⟨k, hk, h⟩ := (fits_snoc_star _ _).1 h
    rw [List.length_drop] at hk
    exact ⟨i, i + k, by omega, by omega, by rw [show i + k - i = k by omega]; exact h⟩
  · rintro ⟨i, k, h1, h2, h⟩
    exact ⟨i, by omega, (fits_snoc_star _ _).2 ⟨k - i, by rw [List.length_drop]; omega, h⟩⟩

/-- A text as a pattern. -/
def special (c : UInt8) : Bool := c == 42 || c == 63 || c == 91 || c == 93 || c == 33 || c == 45 || c == 92
def quoteL (s : Bytes) : Bytes := s.flatMap fun c => if special c then [92, c] else [c]
def plainP : List Piece → Option Bytes
  | [] => some []
  | .byte c :: l => (plainP l).map (c :: ·)
  | _ => none
def plainL (p : Bytes) : Option Bytes := plainP (cutL p)

theorem cutF_quote : ∀ (s : Bytes) (n : Nat), (quoteL s).length < n → cutF n (quoteL s) = s.map .byte
  | [], n + 1, _ => rfl
  | [], 0, h => by omega
  | _ :: _, 0, h => by omega
  | c :: s, n + 1, h => by
    have e : quoteL (c :: s) = (if special c then [92, c] else [c]) ++ quoteL s := by simp [quoteL]
    rw [e] at h ⊢
    cases hc : special c with
    | true =>
      rw [hc] at h
      simp only [if_true, List.length_append, List.length_cons, List.length_nil] at h
      rw [if_pos rfl]
      show cutF (n + 1) (92 :: c :: quoteL s) = _
      have : cutF (n + 1) (92 :: c :: quoteL s) = .byte c :: cutF n (quoteL s) := rfl
      rw [this, cutF_quote s n (by omega)]
      rfl
    | false =>
      rw [hc] at h
      simp only [Bool.false_eq_true, if_false, List.length_append, List.length_cons, List.length_nil] at h
      rw [if_neg (by simp)]
      show cutF (n + 1) (c :: quoteL s) = _
      simp only [special, Bool.or_eq_false_iff] at hc
      obtain ⟨⟨⟨⟨⟨⟨h1, h2⟩, h3⟩, _⟩, _⟩, _⟩, h4⟩ := hc
      have : cutF (n + 1) (c :: quoteL s) = .byte c :: cutF n (quoteL s) := by simp only [cutF, h1, h2, h3, h4, Bool.false_eq_true, if_false]
      rw [this, cutF_quote s n (by omega)]
      rfl
theorem cutL_quote (s : Bytes) : cutL (quoteL s) = s.map .byte := cutF_quote s _ (by omega)
theorem plain_bytes : ∀ s : Bytes, plainP (s.map .byte) = some s
  | [] => rfl
  | c :: s => by rw [List.map_cons, plainP, plain_bytes s]; rfl
theorem plain_quote (s : Bytes) : plainL (quoteL s) = some s := by rw [plainL, cutL_quote, plain_bytes]
theorem fits_bytes : ∀ s t : Bytes, fitsL (s.map .byte) t = (s == t)
  | [], t => by rw [List.map_nil, fitsL]; cases t <;> rfl
  | c :: s, [] => by simp [fitsL]
  | c :: s, d :: t => by
    have e : fitsL ((c :: s).map .byte) (d :: t) = (oneL (.byte c) d && fitsL (s.map .byte) t) := fits_one (l := (c :: s).map .byte) (s := d :: t) (i := 0) (k := 0) rfl rfl rfl
    rw [e, fits_bytes s t]
    rfl
theorem match_quote (s t : Bytes) : matchB (quoteL s) t = (s == t) := by rw [matchB, cutL_quote, fits_bytes]

theorem fits_set (t : Bytes) (s : Bytes) : fitsL [.set t] s = match s with | [c] => inL t c | _ => false := by
  cases s with
  | nil => simp [fitsL]
  | cons c s =>
    have e : fitsL [.set t] (c :: s) = (oneL (.set t) c && fitsL [] s) := fits_one (l := [.set t]) (s := c :: s) (i := 0) (k := 0) rfl rfl rfl
    rw [e, fitsL]
    cases s with
    | nil => simp [oneL]
    | cons d s => simp
theorem sets_two (a b : UInt8) (s : Bytes) : matchB [91, 92, a, 92, b, 93] s = match s with | [c] => c == a || c == b | _ => false := by
  have e : cutL [91, 92, a, 92, b, 93] = [.set [92, a, 92, b]] := rfl
  rw [matchB, e, fits_set]
  split
  · rename_i c
    have : inL [92, a, 92, b] c = (a == c || (b == c || false)) := rfl
    rw [this, Bool.or_false, Bool.beq_comm, Bool.beq_comm (a := b)]
  · rfl
theorem sets_none (a b : UInt8) (s : Bytes) : matchB [91, 33, 92, a, 92, b, 93] s = match s with | [c] => c != a && c != b | _ => false := by
  have e : cutL [91, 33, 92, a, 92, b, 93] = [.set [33, 92, a, 92, b]] := rfl
  rw [matchB, e, fits_set]
  split
  · rename_i c
    have : inL [33, 92, a, 92, b] c = !(a == c || (b == c || false)) := rfl
    rw [this, Bool.or_false, Bool.beq_comm, Bool.beq_comm (a := b)]
    simp [bne]
  · rfl
theorem sets_all (a b : UInt8) (s : Bytes) : matchB [91, 92, a, 45, 92, b, 93] s = match s with | [c] => decide (a ≤ c) && decide (c ≤ b) | _ => false := by
  have e : cutL [91, 92, a, 45, 92, b, 93] = [.set [92, a, 45, 92, b]] := rfl
  rw [matchB, e, fits_set]
  split
  · rename_i c
    have : inL [92, a, 45, 92, b] c = (decide (a ≤ c) && decide (c ≤ b) || false) := rfl
    rw [this, Bool.or_false]
  · rfl
end Go.Proofs.Ytbjejnegfojnmaa
