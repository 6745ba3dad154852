/- Parts of words as plain data, and how great they are. -/
import Derived.Test.YtdfnkmiabmjolaaRep
import Derived.Test.YtdfnkmiabmjolaaModel
namespace Go.Proofs.Ytdfnkmiabmjolaa

def bstr (s : Bytes) : ByteArray := ⟨s.toArray⟩
theorem bstr_size (s : Bytes) : (bstr s).size = s.length := by simp [bstr, ByteArray.size]
theorem bstr_toList (s : Bytes) : (bstr s).data.toList = s := by simp [bstr]
theorem bstr_of (s : ByteArray) : bstr s.data.toList = s := by simp [bstr]
theorem bstr_append (s t : Bytes) : bstr s ++ bstr t = bstr (s ++ t) := ByteArray.mk_append_mk s t
theorem len_data (s : ByteArray) : s.data.toList.length = s.size := by rw [Array.length_toList]; rfl

mutual
def Part.d : Part → D
  | .mk k q t o w => .st [.int .i64 k, .bool q, .str (bstr t), .str (bstr o), .sl 35 5 (Part.ds w)]
def Part.ds : List Part → List D
  | [] => []
  | p :: ps => Part.d p :: Part.ds ps
end
theorem Part.ds_map : ∀ ps : List Part, Part.ds ps = ps.map Part.d
  | [] => rfl
  | p :: ps => by rw [Part.ds, Part.ds_map ps]; rfl
theorem Part.ds_length (ps : List Part) : (Part.ds ps).length = ps.length := by rw [Part.ds_map, List.length_map]
theorem Part.ds_append (ps qs : List Part) : Part.ds (ps ++ qs) = Part.ds ps ++ Part.ds qs := by simp [Part.ds_map]

/-- A part's five cells. -/
theorem part_rep {w : World} {S : Nat → Prop} {k : Int} {q : Bool} {t o : Bytes} {wd : List Part} {cs : List Value} :
    Rep w S (Part.d (.mk k q t o wd)) cs ↔ ∃ v, cs = [.int .i64 k, .bool q, .string (bstr t), .string (bstr o), v] ∧ Rep w S (.sl 35 5 (Part.ds wd)) [v] := by
  constructor
  · rintro ⟨_, _, rfl, rfl, _, _, rfl, rfl, _, _, rfl, rfl, _, _, rfl, rfl, _, _, rfl, h, rfl⟩
    obtain ⟨A, c, inner, rfl, h2⟩ := h
    exact ⟨_, rfl, A, c, inner, rfl, h2⟩
  · rintro ⟨v, rfl, h⟩
    exact ⟨_, _, rfl, rfl, _, _, rfl, rfl, _, _, rfl, rfl, _, _, rfl, rfl, [v], [], rfl, h, rfl⟩

theorem part_rep2 {w : World} {S : Nat → Prop} {k : Int} {q : Bool} {t o : Bytes} {wd : List Part} {cs : List Value} (h : Rep w S (Part.d (.mk k q t o wd)) cs) :
    ∃ A c, cs = [.int .i64 k, .bool q, .string (bstr t), .string (bstr o), .slice A wd.length c] ∧ Rep w S (.sl 35 5 (Part.ds wd)) [.slice A wd.length c] ∧ wd.length ≤ c ∧ c ≤ maxLen := by
  obtain ⟨v, rfl, A, c, inner, e, h2, h3, h4⟩ := part_rep.1 h
  cases e
  rw [Part.ds_length] at *
  exact ⟨A, c, rfl, ⟨A, c, inner, by rw [Part.ds_length], by rw [Part.ds_length]; exact h2, h3, h4⟩, h2, h3⟩

mutual
/-- How great a part is. -/
def Part.wt : Part → Nat
  | .mk _ _ t o w => 1 + t.length + o.length + Part.wts w
def Part.wts : List Part → Nat
  | [] => 0
  | p :: ps => Part.wt p + Part.wts ps
end
theorem Part.length_le : ∀ ps : List Part, ps.length ≤ Part.wts ps
  | [] => Nat.le_refl _
  | .mk k q t o w :: ps => by have := Part.length_le ps; simp [Part.wts, Part.wt]; omega
theorem Part.wts_append : ∀ ps qs : List Part, Part.wts (ps ++ qs) = Part.wts ps + Part.wts qs
  | [], qs => by simp [Part.wts]
  | p :: ps, qs => by simp [Part.wts, Part.wts_append ps qs]; omega

/-- 'add', told by what is ahead and the last. -/
theorem add_snoc : ∀ (l : List Part) (m p : Part), add (l ++ [m]) p = if p.kind == 1 && m.kind == 1 && m.quoted == p.quoted then l ++ [.mk m.kind m.quoted (m.text ++ p.text) m.op m.word] else l ++ [m, p]
  | [], m, p => by simp [add]
  | [a], m, p => by simp only [List.cons_append, List.nil_append, add]; split <;> rfl
  | a :: b :: l, m, p => by
    have := add_snoc (b :: l) m p
    simp only [List.cons_append] at this ⊢
    rw [add, this]
    split <;> rfl
theorem snoc_cases {α : Type} (l : List α) : l = [] ∨ ∃ i m, l = i ++ [m] := by
  rcases List.eq_nil_or_concat l with h | ⟨i, m, h⟩
  · exact .inl h
  · exact .inr ⟨i, m, by simpa using h⟩
theorem add_wt (l : List Part) (p : Part) : Part.wts (add l p) ≤ Part.wts l + p.wt := by
  rcases snoc_cases l with rfl | ⟨i, m, rfl⟩
  · simp [add, Part.wts]
  · rw [add_snoc]
    split
    · obtain ⟨k, q, t, o, w⟩ := m
      obtain ⟨k', q', t', o', w'⟩ := p
      simp [Part.wts_append, Part.wts, Part.wt, Part.text, Part.op, Part.word]
      omega
    · simp [Part.wts_append, Part.wts]
      omega
end Go.Proofs.Ytdfnkmiabmjolaa
