/- What package match computes, in plain Lean: patterns and texts are lists of bytes. No program is in sight. -/
import Derived.WalkKit
namespace Go.Proofs.Ytbjejnegfojnmaa

abbrev Bytes := List UInt8
/-- Behind a [ (and its !): how many bytes stand ahead of what is behind the ] that ends the set. -/
def setF : Nat → Bool → Bytes → Option Nat
  | 0, _, _ => none
  | _ + 1, _, [] => none
  | n + 1, first, c :: r =>
    if c == 93 && !first then some 1
    else if c == 92 && r != [] then (setF n false (r.drop 1)).map (· + 2)
    else (setF n false r).map (· + 1)
/-- How long the set is that begins with a [, r behind it: with the [ and the ]. -/
def setL (r : Bytes) : Option Nat :=
  match r with
  | 33 :: r' => (setF (r'.length + 1) true r').map (· + 2)
  | r => (setF (r.length + 1) true r).map (· + 1)

inductive Piece where
  | star
  | any
  | set (t : Bytes)
  | byte (c : UInt8)
def cutF : Nat → Bytes → List Piece
  | 0, _ => []
  | _ + 1, [] => []
  | n + 1, c :: r =>
    if c == 42 then .star :: cutF n r
    else if c == 63 then .any :: cutF n r
    else if c == 92 then (match r with | [] => [.byte 92] | d :: r' => .byte d :: cutF n r')
    else if c == 91 then (match setL r with | some k => .set (r.take (k - 2)) :: cutF n (r.drop (k - 1)) | none => .byte 91 :: cutF n r)
    else .byte c :: cutF n r
def cutL (p : Bytes) : List Piece := cutF (p.length + 1) p

/-- A byte of a set, and what stands behind it. -/
def signL : Bytes → UInt8 × Bytes
  | 92 :: d :: r => (d, r)
  | c :: r => (c, r)
  | [] => (0, [])
def inF : Nat → Bytes → UInt8 → Bool
  | 0, _, _ => false
  | _ + 1, [], _ => false
  | n + 1, c :: r, x =>
    match (signL (c :: r)).2 with
    | 45 :: d :: r' => (decide ((signL (c :: r)).1 ≤ x) && decide (x ≤ (signL (d :: r')).1)) || inF n (signL (d :: r')).2 x
    | r1 => ((signL (c :: r)).1 == x) || inF n r1 x
def inL (t : Bytes) (x : UInt8) : Bool :=
  match t with
  | 33 :: r => !inF (r.length + 1) r x
  | r => inF (r.length + 1) r x
def oneL : Piece → UInt8 → Bool
  | .star, _ => false
  | .any, _ => true
  | .set t, c => inL t c
  | .byte d, c => d == c
def fitsL : List Piece → Bytes → Bool
  | [], s => s.isEmpty
  | .star :: l, [] => fitsL l []
  | .star :: l, c :: s => fitsL l (c :: s) || fitsL (.star :: l) s
  | _ :: _, [] => false
  | x :: l, c :: s => oneL x c && fitsL l s
termination_by l s => l.length + s.length

/-- The pieces that are no stars, one byte each. -/
def Piece.isStar : Piece → Bool
  | .star => true
  | _ => false
theorem fits_star (l : List Piece) (s : Bytes) : fitsL (.star :: l) s = true ↔ ∃ k, k ≤ s.length ∧ fitsL l (s.drop k) = true := by
  induction s with
  | nil =>
    rw [fitsL]
    exact ⟨fun h => ⟨0, by simp, h⟩, fun ⟨k, hk, h⟩ => by simpa using h⟩
  | cons c s ih =>
    rw [fitsL, Bool.or_eq_true, ih]
    constructor
    · rintro (h | ⟨k, hk, h⟩)
      · exact ⟨0, by simp, h⟩
      · exact ⟨k + 1, by simp; omega, h⟩
    · rintro ⟨k, hk, h⟩
      cases k with
      | zero => exact .inl h
      | succ k => exact .inr ⟨k, by simpa using hk, h⟩
theorem fits_seg : ∀ (seg : List Piece) (l : List Piece) (s : Bytes), (∀ x ∈ seg, x.isStar = false) → fitsL (seg ++ l) s = true → seg.length ≤ s.length ∧ fitsL l (s.drop seg.length) = true
  | [], l, s, _, h => ⟨by simp, h⟩
  | x :: seg, l, [], hs, h => by
    have hx := hs x (by simp)
    cases x with
    | star => simp [Piece.isStar] at hx
    | any => simp [fitsL] at h
    | set t => simp [fitsL] at h
    | byte c => simp [fitsL] at h
  | x :: seg, l, c :: s, hs, h => by
    have hx := hs x (by simp)
    have h2 : fitsL (seg ++ l) s = true := by
      cases x with
      | star => simp [Piece.isStar] at hx
      | any => rw [List.cons_append, fitsL] at h; simp only [Bool.and_eq_true] at h; exact h.2; all_goals simp
      | set t => rw [List.cons_append, fitsL] at h; simp only [Bool.and_eq_true] at h; exact h.2; all_goals simp
      | byte c => rw [List.cons_append, fitsL] at h; simp only [Bool.and_eq_true] at h; exact h.2; all_goals simp
    have := fits_seg seg l s (fun y hy => hs y (by simp [hy])) h2
    exact ⟨by simp; omega, by simpa using this.2⟩
end Go.Proofs.Ytbjejnegfojnmaa
