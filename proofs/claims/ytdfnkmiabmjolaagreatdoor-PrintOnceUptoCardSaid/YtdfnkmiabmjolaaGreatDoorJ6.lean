/- What writing words computes, in plain Lean. No program is in sight. And what stands with it. -/
import Derived.Test.YtdfnkmiabmjolaaGreatDoorJ5
import Derived.Lib.Replace
set_option linter.unusedVariables false
set_option linter.unusedSimpArgs false
namespace Go.Proofs.YtdfnkmiabmjolaaGreatDoor
def quoteP : Bytes → Bytes
 | [] => []
 | c :: l => (if c == 39 then [39, 92, 39, 39] else [c]) ++ quoteP l
mutual
def oneP : Part → Bytes
 | .mk k q t o w =>
  if k == 1 then (if q then 39 :: (quoteP t ++ [39]) else t)
  else if k == 2 then (if o == [108, 101, 110] then [36, 123, 35] ++ t ++ [125] else [36, 123] ++ t ++ o ++ textP w ++ [125])
  else if k == 3 then [36, 40] ++ t ++ [41]
  else [36, 40, 40] ++ t ++ [41, 41]
def textP : List Part → Bytes
 | [] => []
 | p :: ps => (if p.quoted && p.kind != 1 then 34 :: (oneP p ++ [34]) else oneP p) ++ textP ps
end
def partP (p : Part) : Bytes := if p.quoted && p.kind != 1 then 34 :: (oneP p ++ [34]) else oneP p
theorem textP_cons (p : Part) (ps : List Part) : textP (p :: ps) = partP p ++ textP ps := by rw [textP]; rfl
theorem textP_append : ∀ a b : List Part, textP (a ++ b) = textP a ++ textP b
 | [], b => by simp [textP]
 | p :: a, b => by rw [List.cons_append, textP_cons, textP_cons, textP_append a b, List.append_assoc]
theorem quoteP_len : ∀ t : Bytes, (quoteP t).length ≤ 4 * t.length
 | [] => Nat.le_refl _
 | c :: t => by
  have := quoteP_len t
  rw [quoteP, List.length_append, List.length_cons]
  split <;> simp <;> omega
mutual
theorem oneP_len : ∀ p : Part, (oneP p).length + 2 ≤ 8 * p.wt
 | .mk k q t o w => by
  have h1 := quoteP_len t
  have h2 := textP_len w
  rw [oneP, Part.wt]
  split
  ·split
   ·simp; omega
   ·simp; omega
  ·split
   ·split
    ·simp; omega
    ·simp; omega
   ·split
    ·simp; omega
    ·simp; omega
theorem textP_len : ∀ ps : List Part, (textP ps).length ≤ 8 * Part.wts ps
 | [] => by simp [textP]
 | p :: ps => by
  have h1 := oneP_len p
  have h2 := textP_len ps
  rw [textP, Part.wts, List.length_append]
  split
  ·simp; omega
  ·omega
end
theorem partP_len (p : Part) : (partP p).length ≤ 8 * p.wt := by
 have h := oneP_len p
 unfold partP
 split
 ·simp; omega
 ·omega
theorem replace_quote : ∀ s : Bytes, Lib.replaceK [39] [39, 92, 39, 39] (s.count 39) s = quoteP s
 | [] => rfl
 | c :: l => by
  have ih := replace_quote l
  have hge := Lib.indexByte_ge l 39
  by_cases hc : c = 39
  ·subst hc
   rw [List.count_cons_self, quoteP, ← ih]
   have h0 : Lib.index (39 :: l) [39] = (0 : Nat) := by rw [Lib.index_one]; simp [Lib.indexByte]
   rw [Lib.replaceK_hit _ _ _ _ 0 h0]
   simp
  ·have hcb : (c == 39) = false := by simpa using hc
   rw [List.count_cons_of_ne (by simpa using hc), quoteP, hcb, ← ih]
   simp only [Bool.false_eq_true, if_false]
   cases hk : l.count 39 with
   | zero => simp [Lib.replaceK]
   | succ m =>
    obtain ⟨i, hi⟩ := Lib.index_of_count (s := l) (old := [39]) (by rw [Lib.count_one]; omega)
    have hi1 : Lib.index (c :: l) [39] = ((i + 1 : Nat) : Int) := by
     rw [Lib.index_one] at hi ⊢
     rw [Lib.indexByte, hcb, hi]
     simp only [Bool.false_eq_true, if_false]
     rw [if_neg (by simp <;> omega)]
     omega
    rw [Lib.replaceK_hit _ _ _ _ _ hi, Lib.replaceK_hit _ _ _ _ _ hi1]
    simp
theorem replaceAll_quote (s : Bytes) : Lib.replaceAll s [39] [39, 92, 39, 39] = quoteP s := by
 unfold Lib.replaceAll Lib.replace
 rw [if_neg (by decide)]
 have : Lib.replaceNum s [39] (-1) = s.count 39 := by
  unfold Lib.replaceNum
  rw [if_pos (.inl (by decide)), Lib.count_one]
 rw [this, replace_quote]
end Go.Proofs.YtdfnkmiabmjolaaGreatDoor
