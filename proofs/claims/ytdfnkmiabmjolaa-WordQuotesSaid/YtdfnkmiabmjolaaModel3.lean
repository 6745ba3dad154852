/- Plain laws of package word: where a word ends; that a fault has a number. -/
import Derived.Test.YtdfnkmiabmjolaaModel2
namespace Go.Proofs.Ytdfnkmiabmjolaa

/-- Where a word outside braces ends. -/
def Stops (r : Bytes) : Prop := r = [] ∨ ∃ c r', r = c :: r' ∧ metaB c = true
theorem word_stops : ∀ (n deep : Nat) (q : Bool) (l : List Part) (r : Bytes) (l' : List Part) (r' : Bytes), wordF n deep false q l r = .ok l' r' → Stops r'
  | 0, _, _, _, _, _, _, h => by simp [wordF] at h
  | n + 1, deep, q, l, [], l', r', h => by
    rw [wordF] at h
    simp only [Rs.ok.injEq] at h
    exact .inl h.2.symm
  | n + 1, deep, q, l, c :: r, l', r', h => by
    rw [wordF] at h
    split at h
    · rename_i hc
      simp only [Rs.ok.injEq] at h
      exact .inr ⟨c, r, h.2.symm, by simpa using hc⟩
    · split at h
      · split at h
        · exact word_stops n _ _ _ _ _ _ h
        · simp at h
      · split at h
        · split at h
          · simp at h
          · exact word_stops n _ _ _ _ _ _ h
        · split at h
          · split at h
            · exact word_stops n _ _ _ _ _ _ h
            · simp at h
          · split at h
            · simp at h
            · split at h
              · split at h
                · exact word_stops n _ _ _ _ _ _ h
                · simp at h
              · exact word_stops n _ _ _ _ _ _ h

theorem arithF_nz : ∀ (F dp : Nat) (acc r : Bytes) (a : Nat) (e : Int), arithF F dp acc r = .err a e → e ≠ 0
  | F, dp, acc, [], a, e, h => by
    rw [arithF] at h
    simp only [Rs.err.injEq] at h
    omega
  | F, dp, acc, c :: r, a, e, h => by
    rw [arith_cons] at h
    split at h
    · simp only [Rs.err.injEq] at h; omega
    · split at h
      · exact arithF_nz _ _ _ r _ _ h
      · split at h
        · exact arithF_nz _ _ _ r _ _ h
        · split at h
          · split at h
            · simp at h
            · simp only [Rs.err.injEq] at h; omega
          · exact arithF_nz _ _ _ r _ _ h
theorem escape_nz (l : List Part) (r : Bytes) (a : Nat) (e : Int) (h : escape l r = .err a e) : e ≠ 0 := by
  unfold escape at h
  split at h
  · simp at h
  · simp only [Rs.err.injEq] at h; omega

structure ScanNz (n : Nat) : Prop where
  word : ∀ deep br q l r a e, 4 * r.length + 3 ≤ n → wordF n deep br q l r = .err a e → e ≠ 0
  double : ∀ deep F l r a e, 4 * r.length + 6 ≤ n → doubleF n deep F l r = .err a e → e ≠ 0
  dollar : ∀ deep q r a e, 4 * r.length + 5 ≤ n → dollarF n deep q r = .err a e → e ≠ 0
  param : ∀ deep q r a e, 4 * r.length + 8 ≤ n → paramF n deep q r = .err a e → e ≠ 0

theorem scan_nz : ∀ n, ScanNz n
  | 0 => ⟨fun _ _ _ _ _ _ _ h => by omega, fun _ _ _ _ _ _ h => by omega, fun _ _ _ _ _ h => by omega, fun _ _ _ _ _ h => by omega⟩
  | n + 1 => by
    obtain ⟨ihw, ihd, ihs, ihp⟩ := scan_nz n
    obtain ⟨lw, ld, ls, lp⟩ := scan_len n
    refine ⟨?_, ?_, ?_, ?_⟩
    · intro deep br q l r a e hn h
      cases r with
      | nil => simp [wordF] at h
      | cons c r =>
        simp only [List.length_cons] at hn
        rw [wordF] at h
        split at h
        · simp at h
        · split at h
          · split at h
            · rename_i l1 r1 he
              have := escape_len _ _ _ _ he
              exact ihw _ _ _ _ _ _ _ (by simp at this; omega) h
            · rename_i a1 e1 he
              simp only [Rs.err.injEq] at h
              exact h.2 ▸ escape_nz _ _ _ _ he
          · split at h
            · split at h
              · simp only [Rs.err.injEq] at h; omega
              · exact ihw _ _ _ _ _ _ _ (by simp; omega) h
            · split at h
              · split at h
                · rename_i l1 r1 he
                  have := ld _ _ _ _ _ _ he
                  exact ihw _ _ _ _ _ _ _ (by omega) h
                · rename_i a1 e1 he
                  simp only [Rs.err.injEq] at h
                  exact h.2 ▸ ihd _ _ _ _ _ _ (by omega) he
              · split at h
                · simp only [Rs.err.injEq] at h; omega
                · split at h
                  · split at h
                    · rename_i p1 r1 he
                      have := ls _ _ _ _ _ he
                      exact ihw _ _ _ _ _ _ _ (by omega) h
                    · rename_i a1 e1 he
                      simp only [Rs.err.injEq] at h
                      exact h.2 ▸ ihs _ _ _ _ _ (by omega) he
                  · exact ihw _ _ _ _ _ _ _ (by omega) h
    · intro deep F l r a e hn h
      cases r with
      | nil =>
        rw [doubleF] at h
        simp only [Rs.err.injEq] at h; omega
      | cons c r =>
        simp only [List.length_cons] at hn
        rw [doubleF] at h
        split at h
        · simp at h
        · split at h
          · simp only [Rs.err.injEq] at h; omega
          · split at h
            · split at h
              · rename_i p1 r1 he
                have := ls _ _ _ _ _ he
                exact ihd _ _ _ _ _ _ (by omega) h
              · rename_i a1 e1 he
                simp only [Rs.err.injEq] at h
                exact h.2 ▸ ihs _ _ _ _ _ (by omega) he
            · split at h
              · split at h
                · rename_i l1 r1 he
                  have := escape_len _ _ _ _ he
                  exact ihd _ _ _ _ _ _ (by simp at this; omega) h
                · rename_i a1 e1 he
                  simp only [Rs.err.injEq] at h
                  exact h.2 ▸ escape_nz _ _ _ _ he
              · exact ihd _ _ _ _ _ _ (by omega) h
    · intro deep q r a e hn h
      rw [dollarF, dollarG.eq_def] at h
      split at h
      · simp only [Rs.err.injEq] at h; omega
      · split at h
        · simp at h
        · split at h
          · simp at h
          · rename_i c r2
            simp only [List.length_cons] at hn
            split at h
            · simp at h
            · split at h
              · exact ihp _ _ _ _ _ (by omega) h
              · split at h
                · split at h
                  · split at h
                    · simp at h
                    · rename_i a1 e1 he
                      simp only [Rs.err.injEq] at h
                      exact h.2 ▸ arithF_nz _ _ _ _ _ _ he
                  · split at h
                    · simp only [Rs.err.injEq] at h; omega
                    · simp at h
                · simp at h
    · intro deep q r a e hn h
      rw [paramF] at h
      split at h
      · simp only [Rs.err.injEq] at h; omega
      · have key : ∀ (len : Bool) (r1 : Bytes), r1.length ≤ r.length → paramG (wordF n (deep + 1) true q []) (r.length + 2) len q r1 = .err a e → e ≠ 0 := by
          intro len r1 hr1 h
          rw [paramG] at h
          split at h
          · simp only [Rs.err.injEq] at h; omega
          · have hfin : ∀ (t o : Bytes) (l : List Part) (r3 : Bytes), finish (r.length + 2) q t o (.ok l r3) = .err a e → e ≠ 0 := by
              intro t o l r3 h
              rw [finish.eq_def] at h
              dsimp only at h
              split at h
              · simp only [Rs.err.injEq] at h; omega
              · split at h
                · simp at h
                · simp only [Rs.err.injEq] at h; omega
            cases len with
            | true =>
              simp only [if_true, Bool.true_or] at h
              exact hfin _ _ _ _ h
            | false =>
              simp only [Bool.false_or, Bool.false_eq_true, if_false] at h
              by_cases hop : (opM (r1.drop (parameter r1)) == []) = true
              · rw [if_pos hop] at h
                exact hfin _ _ _ _ h
              · rw [if_neg hop] at h
                generalize hw : wordF n (deep + 1) true q [] ((r1.drop (parameter r1)).drop (opM (r1.drop (parameter r1))).length) = W at h
                cases W with
                | ok l r3 => exact hfin _ _ _ _ h
                | err a1 e1 =>
                  simp only [finish, Rs.err.injEq] at h
                  exact h.2 ▸ ihw _ _ _ _ _ _ _ (by simp; omega) hw
        split at h
        · exact key _ _ (by simp) h
        · exact key _ _ (Nat.le_refl _) h

theorem scan_err (r : Bytes) (a : Nat) (e : Int) (h : scan r = .err a e) : e ≠ 0 := (scan_nz _).word _ _ _ _ _ _ _ (Nat.le_refl _) h
theorem scan_ok (r r' : Bytes) (l : List Part) (h : scan r = .ok l r') : Stops r' ∧ Part.wts l + 2 * r'.length ≤ 2 * r.length := by
  refine ⟨word_stops _ _ _ _ _ _ _ h, ?_⟩
  have := ((scan_len _).word _ _ _ _ _ _ _ h).1
  simpa [Part.wts] using this

theorem idx_behind (c : UInt8) (r : Bytes) : ∀ s : Bytes, s.contains c = false → idx c (s ++ c :: r) = some s.length
  | [], _ => by simp [idx]
  | d :: s, h => by
    rw [List.contains_cons] at h
    simp only [Bool.or_eq_false_iff] at h
    have hd : (d == c) = false := by
      have h1 : ¬ c = d := by simpa using h.1
      simpa using fun e => h1 e.symm
    rw [List.cons_append, idx, hd, if_neg (by simp), idx_behind c r s h.2]
    rfl
theorem scan_single (s : Bytes) (h : s.contains 39 = false) : scan (39 :: (s ++ [39])) = .ok [lit s true] [] := by
  have hf : ∃ n, fuel (39 :: (s ++ [39])) = n + 1 + 1 := ⟨4 * (s.length + 2) + 1, by simp [fuel]⟩
  obtain ⟨n, hn⟩ := hf
  rw [scan, hn, wordF, if_neg (by decide), if_neg (by decide), if_pos (by decide), idx_behind 39 [] s h]
  have ht : (s ++ [39]).take s.length = s := by simp
  have hd : (s ++ [39]).drop (s.length + 1) = ([] : Bytes) := by simp
  show wordF (n + 1) 0 false false (add [] (lit ((s ++ [39]).take s.length) true)) ((s ++ [39]).drop (s.length + 1)) = _
  rw [ht, hd, wordF]
  rfl

def plainB (c : UInt8) : Bool := !(c == 34) && !(c == 36) && !(c == 92) && !(c == 96)
theorem double_plain (d F : Nat) (hF : F ≠ 2) : ∀ (s p : Bytes) (n : Nat), s.length + 1 ≤ n → s.all plainB = true → doubleF n d F [lit p true] (s ++ [34]) = .ok [lit (p ++ s) true] []
  | [], p, n, hn, _ => by
    obtain ⟨m, rfl⟩ : ∃ m, n = m + 1 := ⟨n - 1, by omega⟩
    rw [List.nil_append, doubleF, if_pos (by decide), List.append_nil, if_neg (by simp; omega)]
  | c :: s, p, n, hn, h => by
    obtain ⟨m, rfl⟩ : ∃ m, n = m + 1 := ⟨n - 1, by simp at hn; omega⟩
    rw [List.all_cons] at h
    simp only [Bool.and_eq_true, plainB, Bool.not_eq_true'] at h
    obtain ⟨⟨⟨⟨h34, h36⟩, h92⟩, h96⟩, hs⟩ := h
    rw [List.cons_append, doubleF, if_neg (by simp [h34]), if_neg (by simp [h96]), if_neg (by simp [h36]), if_neg (by simp [h92])]
    have ha : add [lit p true] (lit [c] true) = [lit (p ++ [c]) true] := by simp [add, lit, Part.kind, Part.quoted, Part.text, Part.op, Part.word]
    rw [ha, double_plain d F hF s (p ++ [c]) m (by simp at hn; omega) (by simpa [plainB] using hs)]
    simp
theorem scan_double (s : Bytes) (h : s.all plainB = true) : scan (34 :: (s ++ [34])) = .ok [lit s true] [] := by
  obtain ⟨n, hn, hl⟩ : ∃ n, fuel (34 :: (s ++ [34])) = n + 1 + 1 ∧ s.length + 1 ≤ n := ⟨4 * (s.length + 2) + 1, by simp [fuel], by omega⟩
  rw [scan, hn, wordF, if_neg (by decide), if_neg (by decide), if_neg (by decide), if_pos (by decide)]
  have hd : doubleF (n + 1) 0 ((s ++ [34]).length + 1) [] (s ++ [34]) = .ok [lit s true] [] := by
    cases s with
    | nil => rw [List.nil_append, doubleF, if_pos (by decide)]; rfl
    | cons c s =>
      rw [List.all_cons] at h
      simp only [Bool.and_eq_true, plainB, Bool.not_eq_true'] at h
      obtain ⟨⟨⟨⟨h34, h36⟩, h92⟩, h96⟩, hs⟩ := h
      rw [List.cons_append, doubleF, if_neg (by simp [h34]), if_neg (by simp [h96]), if_neg (by simp [h36]), if_neg (by simp [h92])]
      have ha : add [] (lit [c] true) = [lit [c] true] := rfl
      rw [ha, double_plain 0 _ (by simp) s [c] n (by simp at hl; omega) (by simpa [plainB] using hs)]
      rfl
  rw [hd]
  simp only []
  rw [wordF]
theorem scan_dollar (s : Bytes) (h : nameB s = true) : scan (36 :: s) = .ok [.mk 2 false s [] []] [] := by
  simp only [nameB, Bool.and_eq_true, decide_eq_true_eq, beq_iff_eq] at h
  obtain ⟨⟨h1, h2⟩, h3⟩ := h
  have h4 : s ≠ [] := by simpa using h1
  have h5 : 0 < s.length := by cases s with | nil => exact absurd rfl h4 | cons _ _ => simp
  obtain ⟨n, hn⟩ : ∃ n, fuel (36 :: s) = n + 1 + 1 := ⟨4 * (s.length + 1) + 1, by simp [fuel]⟩
  rw [scan, hn, wordF, if_neg (by decide), if_neg (by decide), if_neg (by decide), if_neg (by decide), if_neg (by decide), if_pos (by decide)]
  have hd : dollarF (n + 1) 0 false s = .ok (.mk 2 false s [] []) [] := by
    rw [dollarF, dollarG.eq_def, if_neg (by omega), if_pos (by omega), h3]
    simp
  rw [hd]
  simp only []
  rw [wordF]
  rfl
end Go.Proofs.Ytdfnkmiabmjolaa
