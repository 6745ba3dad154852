/- How great what is read is, and how much of the text is left. -/
import Derived.Test.YtdfnkmiabmjolaaPart
import Derived.Test.YtdfnkmiabmjolaaW8
namespace Go.Proofs.Ytdfnkmiabmjolaa
set_option linter.unusedVariables false

theorem lit_wt (s : Bytes) (q : Bool) : (lit s q).wt = 1 + s.length := by simp [lit, Part.wt, Part.wts]
theorem idx_lt (c : UInt8) : ∀ (l : Bytes) (k : Nat), idx c l = some k → k < l.length
  | [], k, h => by simp [idx] at h
  | d :: l, k, h => by
    rw [idx] at h
    split at h
    · simp at h; simp; omega
    · simp only [Option.map_eq_some_iff] at h
      obtain ⟨j, hj, rfl⟩ := h
      have := idx_lt c l j hj
      simp; omega
theorem insideF_lt : ∀ (n deep : Nat) (l : Bytes) (k : Nat), insideF n deep l = some k → k < l.length
  | 0, _, _, _, h => by simp [insideF] at h
  | n + 1, _, [], _, h => by simp [insideF] at h
  | n + 1, deep, c :: r, k, h => by
    rw [insideF] at h
    split at h
    · simp only [Option.map_eq_some_iff] at h
      obtain ⟨j, hj, rfl⟩ := h
      have := insideF_lt n _ _ j hj
      simp at this ⊢; omega
    · split at h
      · split at h
        · simp at h
        · rename_i j' hc
          simp only [Option.map_eq_some_iff] at h
          obtain ⟨j, hj, rfl⟩ := h
          have := insideF_lt n _ _ j hj
          have := closed_lt _ _ _ hc
          simp at *; omega
      · split at h
        · simp only [Option.map_eq_some_iff] at h
          obtain ⟨j, hj, rfl⟩ := h
          have := insideF_lt n _ _ j hj
          simp at this ⊢; omega
        · split at h
          · split at h
            · simp at h; simp; omega
            · simp only [Option.map_eq_some_iff] at h
              obtain ⟨j, hj, rfl⟩ := h
              have := insideF_lt n _ _ j hj
              simp at this ⊢; omega
          · simp only [Option.map_eq_some_iff] at h
            obtain ⟨j, hj, rfl⟩ := h
            have := insideF_lt n _ _ j hj
            simp at this ⊢; omega
theorem arithF_len : ∀ (F dp : Nat) (acc r t r' : Bytes), arithF F dp acc r = .ok t r' → t.length + r'.length + 2 ≤ acc.length + r.length
  | F, dp, acc, [], t, r', h => by simp [arithF] at h
  | F, dp, acc, c :: r, t, r', h => by
    rw [arith_cons] at h
    split at h
    · simp at h
    · split at h
      · have := arithF_len F _ _ r t r' h
        simp at this ⊢; omega
      · split at h
        · have := arithF_len F _ _ r t r' h
          simp at this ⊢; omega
        · split at h
          · split at h
            · simp at h
              obtain ⟨rfl, rfl⟩ := h
              simp; omega
            · simp at h
          · have := arithF_len F _ _ r t r' h
            simp at this ⊢; omega
theorem named_le : ∀ s : Bytes, named s ≤ s.length
  | [] => Nat.le_refl _
  | c :: r => by
    rw [named]
    split
    · have := takeWhile_le (p := alnum) r
      simp; omega
    · omega
theorem parameter_le : ∀ s : Bytes, parameter s ≤ s.length
  | [] => Nat.le_refl _
  | c :: r => by
    have h1 := named_le (c :: r)
    have h2 := takeWhile_le (p := digit) (c :: r)
    show (if named (c :: r) > 0 then named (c :: r) else if special c then 1 else ((c :: r).takeWhile digit).length) ≤ _
    split
    · exact h1
    · split
      · simp
      · exact h2
theorem opL_prefix : ∀ (os : List Bytes) (s : Bytes), (opL os s).length ≤ s.length
  | [], s => by simp [opL]
  | o :: os, s => by
    rw [opL]
    split
    · rename_i h
      exact (List.isPrefixOf_iff_prefix.1 h).length_le
    · exact opL_prefix os s
theorem escape_len (l l' : List Part) (r r' : Bytes) (h : escape l r = .ok l' r') : Part.wts l' + 2 * r'.length ≤ Part.wts l + 2 * r.length ∧ r'.length + 2 ≤ r.length := by
  unfold escape at h
  split at h
  · simp only [Rs.ok.injEq] at h
    obtain ⟨rfl, rfl⟩ := h
    split
    · simp; omega
    · rename_i d _ _
      have := add_wt l (lit [d] true)
      rw [lit_wt] at this
      simp at this ⊢; omega
  · simp at h

structure ScanLen (n : Nat) : Prop where
  word : ∀ deep br q l r l' r', wordF n deep br q l r = .ok l' r' → Part.wts l' + 2 * r'.length ≤ Part.wts l + 2 * r.length ∧ r'.length ≤ r.length
  double : ∀ deep F l r l' r', doubleF n deep F l r = .ok l' r' → Part.wts l' + 2 * r'.length ≤ Part.wts l + 2 * r.length ∧ r'.length + 1 ≤ r.length
  dollar : ∀ deep q r p r', dollarF n deep q r = .ok p r' → p.wt + 2 * r'.length ≤ 2 * r.length + 2 ∧ r'.length ≤ r.length
  param : ∀ deep q r p r', paramF n deep q r = .ok p r' → p.wt + 2 * r'.length ≤ 2 * r.length ∧ r'.length + 1 ≤ r.length

theorem allB_wt (p : Part) (q : Bool) : (allB p q).wt ≤ p.wt := by
  cases q
  · exact Nat.le_refl _
  · exact allP_wt _ p (Nat.le_refl _)

theorem scan_len : ∀ n, ScanLen n
  | 0 => ⟨by intros; rename_i h; simp [wordF] at h, by intros; rename_i h; simp [doubleF] at h, by intros; rename_i h; simp [dollarF] at h, by intros; rename_i h; simp [paramF] at h⟩
  | n + 1 => by
    obtain ⟨ihw, ihd, ihs, ihp⟩ := scan_len n
    refine ⟨?_, ?_, ?_, ?_⟩
    · intro deep br q l r l' r' h
      cases r with
      | nil => simp [wordF] at h; obtain ⟨rfl, rfl⟩ := h; simp
      | cons c r =>
        rw [wordF] at h
        split at h
        · simp at h; obtain ⟨rfl, rfl⟩ := h; simp
        · split at h
          · split at h
            · rename_i l1 r1 he
              have h1 := escape_len _ _ _ _ he
              have h2 := ihw _ _ _ _ _ _ _ h
              simp at h1 ⊢; omega
            · simp at h
          · split at h
            · split at h
              · simp at h
              · rename_i k hk
                have h1 := idx_lt _ _ _ hk
                have h2 := ihw _ _ _ _ _ _ _ h
                have h3 := add_wt l (lit (r.take k) true)
                rw [lit_wt] at h3
                simp at h2 h3 ⊢; omega
            · split at h
              · split at h
                · rename_i l1 r1 he
                  have h1 := ihd _ _ _ _ _ _ he
                  have h2 := ihw _ _ _ _ _ _ _ h
                  simp; omega
                · simp at h
              · split at h
                · simp at h
                · split at h
                  · split at h
                    · rename_i p1 r1 he
                      have h1 := ihs _ _ _ _ _ he
                      have h2 := ihw _ _ _ _ _ _ _ h
                      have h3 := add_wt l p1
                      simp; omega
                    · simp at h
                  · have h2 := ihw _ _ _ _ _ _ _ h
                    have h3 := add_wt l (lit [c] q)
                    rw [lit_wt] at h3
                    simp at h3 ⊢; omega
    · intro deep F l r l' r' h
      cases r with
      | nil => simp [doubleF] at h
      | cons c r =>
        rw [doubleF] at h
        split at h
        · simp only [Rs.ok.injEq] at h
          obtain ⟨rfl, rfl⟩ := h
          have h3 := add_wt l (lit [] true)
          rw [lit_wt] at h3
          split <;> simp at h3 ⊢ <;> omega
        · split at h
          · simp at h
          · split at h
            · split at h
              · rename_i p1 r1 he
                have h1 := ihs _ _ _ _ _ he
                have h2 := ihd _ _ _ _ _ _ h
                have h3 := add_wt l p1
                simp; omega
              · simp at h
            · split at h
              · split at h
                · rename_i l1 r1 he
                  have h1 := escape_len _ _ _ _ he
                  have h2 := ihd _ _ _ _ _ _ h
                  simp at h1 ⊢; omega
                · simp at h
              · have h2 := ihd _ _ _ _ _ _ h
                have h3 := add_wt l (lit [c] true)
                rw [lit_wt] at h3
                simp at h3 ⊢; omega
    · intro deep q r p r' h
      rw [dollarF, dollarG.eq_def] at h
      split at h
      · simp at h
      · split at h
        · rename_i hn
          have := named_le r
          simp only [Rs.ok.injEq] at h
          obtain ⟨rfl, rfl⟩ := h
          simp [Part.wt, Part.wts]; omega
        · split at h
          · simp only [Rs.ok.injEq] at h
            obtain ⟨rfl, rfl⟩ := h
            simp [lit_wt]
          · split at h
            · simp only [Rs.ok.injEq] at h
              obtain ⟨rfl, rfl⟩ := h
              simp [Part.wt, Part.wts]; omega
            · split at h
              · have := ihp _ _ _ _ _ h
                simp; omega
              · split at h
                · split at h
                  · split at h
                    · rename_i t r1 he
                      have := arithF_len _ _ _ _ _ _ he
                      simp only [Rs.ok.injEq] at h
                      obtain ⟨rfl, rfl⟩ := h
                      simp [Part.wt, Part.wts] at this ⊢; omega
                    · simp at h
                  · split at h
                    · simp at h
                    · rename_i k hk
                      have := insideF_lt _ _ _ _ hk
                      simp only [Rs.ok.injEq] at h
                      obtain ⟨rfl, rfl⟩ := h
                      simp [Part.wt, Part.wts]; omega
                · simp only [Rs.ok.injEq] at h
                  obtain ⟨rfl, rfl⟩ := h
                  simp [lit_wt]; omega
    · intro deep q r p r' h
      rw [paramF] at h
      split at h
      · simp at h
      · have key : ∀ (len : Bool) (r1 : Bytes), paramG (wordF n (deep + 1) true q []) (r.length + 2) len q r1 = .ok p r' → p.wt + 2 * r'.length ≤ 2 * r1.length + (if len then 2 else 0) ∧ r'.length + 1 ≤ r1.length := by
          intro len r1 h
          rw [paramG] at h
          split at h
          · simp at h
          · rename_i hk
            simp at hk
            have hp := parameter_le r1
            have ho := opL_prefix ops (r1.drop (parameter r1))
            rw [← opM] at ho
            have hfin : ∀ (t o : Bytes) (l : List Part) (r3 : Bytes), finish (r.length + 2) q t o (.ok l r3) = .ok p r' → p.wt ≤ 1 + t.length + o.length + Part.wts l ∧ r'.length + 1 = r3.length := by
              intro t o l r3 h
              rw [finish.eq_def] at h
              dsimp only at h
              split at h
              · simp at h
              · split at h
                · simp only [Rs.ok.injEq] at h
                  obtain ⟨rfl, rfl⟩ := h
                  have := allB_wt (.mk 2 q t o l) q
                  simp only [Part.wt] at this
                  simp; omega
                · simp at h
            cases len with
            | true =>
              simp only [if_true, Bool.true_or] at h
              have := hfin _ _ _ _ h
              simp [Part.wts] at this ⊢; omega
            | false =>
              simp only [Bool.false_or, Bool.false_eq_true, if_false] at h
              by_cases hop : (opM (r1.drop (parameter r1)) == []) = true
              · rw [if_pos hop] at h
                have := hfin _ _ _ _ h
                have hop' : opM (r1.drop (parameter r1)) = [] := by simpa using hop
                rw [hop'] at this
                simp [Part.wts] at this ⊢; omega
              · rw [if_neg hop] at h
                generalize hw : wordF n (deep + 1) true q [] ((r1.drop (parameter r1)).drop (opM (r1.drop (parameter r1))).length) = W at h
                cases W with
                | err a e => simp [finish] at h
                | ok l r3 =>
                  have h1 := ihw _ _ _ _ _ _ _ hw
                  have := hfin _ _ _ _ h
                  simp [Part.wts] at this h1 ho ⊢; omega
        split at h
        · rename_i hl
          have := key _ _ h
          rw [hl] at this
          cases r with
          | nil => simp [lenB] at hl
          | cons c r => simp at this ⊢; omega
        · rename_i hl
          have := key _ _ h
          simp [hl] at this
          exact this
end Go.Proofs.Ytdfnkmiabmjolaa
