/- Walks of package word: what a dollar begins. -/
import Derived.Test.YtdfnkmiabmjolaaModel2
namespace Go.Proofs.Ytdfnkmiabmjolaa
open Go.RowKit
set_option linter.unusedVariables false
set_option linter.unusedSimpArgs false

/-- A part that is handed back. -/
def PartVal (w : World) (p : Part) (v : Value) (w' : World) : Prop := ∃ cs : List Value, v = .agg cs.toArray ∧ Rep w' (fun k => w.heap.size ≤ k) p.d cs
/-- A row of parts that is handed back. -/
def RowVal (w : World) (S : Nat → Prop) (l : List Part) (v : Value) (w' : World) : Prop := Own w' (fun k => S k ∨ w.heap.size ≤ k) 35 5 v (Part.ds l)

def WordSaid (n : Nat) : Prop := ∀ (w : World) (g : Nat) (s : ByteArray) (a d : Nat) (br q : Bool), ScanAt w g s a d → a ≤ s.size → s.size ≤ 8192 → d ≤ 16 → 4 * (s.size - a) + 3 ≤ n →
  Calls Try.prog 27 #[.pointer (some ⟨g, 0, none⟩), .bool br, .bool q] w (ScanPost w g s d (wordF n d br q [] (s.data.toList.drop a)) (fun _ => False) (RowVal w (fun _ => False)))
def DoubleSaid (n : Nat) : Prop := ∀ (w : World) (g : Nat) (s : ByteArray) (a d : Nat) (S : Nat → Prop) (v : Value) (l : List Part), ScanAt w g s a d → a < s.size → s.size ≤ 8192 → d ≤ 16 → 4 * (s.size - a) + 2 ≤ n →
  Own w S 35 5 v (Part.ds l) → ¬ S g → Part.wts l + 2 * (s.size - a) ≤ 100000 →
  Calls Try.prog 39 #[.pointer (some ⟨g, 0, none⟩), v] w (ScanPost w g s d (doubleF n d (s.size - a) l (s.data.toList.drop (a + 1))) (fun j => some j = v.ownBlock) (RowVal w S))
def DollarSaid (n : Nat) : Prop := ∀ (w : World) (g : Nat) (s : ByteArray) (a d : Nat) (q : Bool), ScanAt w g s a d → a < s.size → s.size ≤ 8192 → d ≤ 16 → 4 * (s.size - a) + 1 ≤ n →
  Calls Try.prog 40 #[.pointer (some ⟨g, 0, none⟩), .bool q] w (ScanPost w g s d (dollarF n d q (s.data.toList.drop (a + 1))) (fun _ => False) (PartVal w))
def ParamSaid (n : Nat) : Prop := ∀ (w : World) (g : Nat) (s : ByteArray) (a d : Nat) (q : Bool), ScanAt w g s a d → a + 2 ≤ s.size → s.size ≤ 8192 → d ≤ 16 → 4 * (s.size - a) ≤ n →
  Calls Try.prog 49 #[.pointer (some ⟨g, 0, none⟩), .bool q] w (ScanPost w g s d (paramF n d q (s.data.toList.drop (a + 2))) (fun _ => False) (PartVal w))

theorem extract_size (s : ByteArray) (a : Nat) (h : a ≤ s.size) : (s.extract a s.size).size = s.size - a := by simp [ByteArray.size_extract]
theorem part_nil (w : World) (S : Nat → Prop) (k : Int) (q : Bool) (x : ByteArray) (t : Bytes) (hx : x = bstr t) : Rep w S (Part.d (.mk k q t [] [])) [.int .i64 k, .bool q, .string x, .string ⟨#[]⟩, .slice none 0 0] :=
  part_rep.2 ⟨_, by rw [hx]; rfl, none, 0, [], rfl, Nat.le_refl _, by simp [maxLen], by simp [Rd], rfl⟩
theorem byte_comm (x c : UInt8) : (x == c) = (c == x) := by
  by_cases h : x = c
  · rw [h]
  · rw [beq_eq_false_iff_ne.2 h, beq_eq_false_iff_ne.2 (Ne.symm h)]
theorem prefix_one (x : UInt8) (c : UInt8) (l : Bytes) : Lib.hasPrefix (c :: l) [x] = (c == x) := by
  show ((x == c) && true) = (c == x)
  rw [Bool.and_true, byte_comm]
theorem prefix_two (x y : UInt8) (c d : UInt8) (l : Bytes) : Lib.hasPrefix (c :: d :: l) [x, y] = (c == x && d == y) := by
  show ((x == c) && ((y == d) && true)) = (c == x && d == y)
  rw [Bool.and_true, byte_comm, byte_comm y]
theorem prefix_two_one (x y : UInt8) (c : UInt8) : Lib.hasPrefix [c] [x, y] = false := by simp [Lib.hasPrefix, List.isPrefixOf]
theorem data_cons (t : ByteArray) (h : 0 < t.size) : t.data.toList = t[0] :: t.data.toList.drop 1 := byte_drop t 0 h

theorem extract_head (s : ByteArray) (b : Nat) (h : b < s.size) (t : ByteArray) (ht : t.data.toList = s.data.toList.drop b) (h0 : 0 < t.size) : t[0] = s[b] := by
  have h1 := data_cons t h0
  rw [ht, byte_drop s b h] at h1
  exact (List.cons.inj h1).1.symm

section
variable (w : World) (g : Nat) (s : ByteArray) (a d : Nat) (q : Bool) (h : ScanAt w g s a d) (ha : a < s.size) (hs : s.size ≤ 8192) (n : Nat)
include h ha hs

set_option maxRecDepth 100000 in
set_option maxHeartbeats 4000000 in
theorem dollar_long (hn : named (s.data.toList.drop (a + 1)) > 64) : Calls Try.prog 40 #[.pointer (some ⟨g, 0, none⟩), .bool q] w (ScanPost w g s d (dollarF (n + 1) d q (s.data.toList.drop (a + 1))) (fun _ => False) (PartVal w)) := by
  have hE : dollarF (n + 1) d q (s.data.toList.drop (a + 1)) = .err (s.size - (a + 1)) 61 := by rw [dollarF, dollarG.eq_def, if_pos hn, drop_len]
  have HE := Lib.hid hE; clear hE
  have HN := Lib.hid hn; clear hn
  obtain ⟨h0, h1, h2, f1, _, hgl⟩ := h.cells
  have HT0 := Lib.hid (Lib.extract_to_end s (a + 1))
  have e1 : (0 : Int) ≤ (a : Int) + 1 := by omega
  have e2 : (a : Int) + 1 ≤ (s.size : Int) := by omega
  have hsz : (s.extract (a + 1) s.size).size ≤ 8192 := by simp [ByteArray.size_extract]; omega
  have HSZ := Lib.hid (extract_size s (a + 1) (by omega))
  generalize dollarF (n + 1) d q (s.data.toList.drop (a + 1)) = R at *
  go_enter Try.func40, Try.ntmps40
  go_wp2_with fail
  generalize s.extract (a + 1) s.size = t at *
  have hn : named t.data.toList > 64 := by rw [HT0.out]; exact HN.out
  go_wp2_with (first | (go_at_call 30; refine (named_calls _ _ (by omega)).mono ?_; rintro e w' ⟨rfl, rfl⟩) | (go_at_call 36; refine (fail_calls _ _ _ _).mono ?_; rintro e w1 ⟨rfl, rfl⟩))
  refine ⟨rfl, ?_⟩
  rw [HE.out]
  exact ⟨a + 1, by omega, rfl, by simp [faultV], (Chg.refl _ _).alloc _⟩

set_option maxRecDepth 100000 in
set_option maxHeartbeats 4000000 in
theorem dollar_name (hn : named (s.data.toList.drop (a + 1)) ≤ 64) (hn0 : 0 < named (s.data.toList.drop (a + 1))) : Calls Try.prog 40 #[.pointer (some ⟨g, 0, none⟩), .bool q] w (ScanPost w g s d (dollarF (n + 1) d q (s.data.toList.drop (a + 1))) (fun _ => False) (PartVal w)) := by
  have hE : dollarF (n + 1) d q (s.data.toList.drop (a + 1)) = .ok (.mk 2 q ((s.data.toList.drop (a + 1)).take (named (s.data.toList.drop (a + 1)))) [] []) (s.data.toList.drop (a + 1 + named (s.data.toList.drop (a + 1)))) := by
    rw [dollarF, dollarG.eq_def, if_neg (by omega), if_pos hn0, List.drop_drop]
  have HE := Lib.hid hE; clear hE
  have HN := Lib.hid (And.intro hn hn0); clear hn hn0
  have HL := Lib.hid (named_le (s.data.toList.drop (a + 1)))
  obtain ⟨h0, h1, h2, f1, _, hgl⟩ := h.cells
  have HT0 := Lib.hid (Lib.extract_to_end s (a + 1))
  have e1 : (0 : Int) ≤ (a : Int) + 1 := by omega
  have e2 : (a : Int) + 1 ≤ (s.size : Int) := by omega
  have hsz : (s.extract (a + 1) s.size).size ≤ 8192 := by simp [ByteArray.size_extract]; omega
  have HSZ := Lib.hid (extract_size s (a + 1) (by omega))
  generalize dollarF (n + 1) d q (s.data.toList.drop (a + 1)) = R at *
  go_enter Try.func40, Try.ntmps40
  go_wp2_with fail
  generalize s.extract (a + 1) s.size = t at *
  generalize hk : named t.data.toList = k at *
  have HK := Lib.hid hk; clear hk
  have hk1 : k ≤ 64 := by rw [← HK.out, HT0.out]; exact HN.out.1
  have hk0 : 0 < k := by rw [← HK.out, HT0.out]; exact HN.out.2
  have hk2 : k ≤ t.size := by rw [← HK.out, HT0.out, ← len_data t, HT0.out]; exact HL.out
  have hk3 := HSZ.out
  have HX := Lib.hid (extract_bstr t 0 k)
  have hk4 : a + 1 + k ≤ s.size := by omega
  clear hk3
  go_wp2_with (go_at_call 30; refine (named_calls _ _ (by omega)).mono ?_; rintro e w' ⟨rfl, rfl⟩; rw [HK.out])
  refine bodyPost_ret (v := .agg #[.int .i64 2, .bool q, .string (t.extract 0 k), .string ⟨#[]⟩, .slice none 0 0]) (by simp [results, Try.results40, go_sem]) rfl ?_
  rw [HE.out]
  refine ⟨_, a + 1 + k, rfl, hk4, by rw [← HT0.out, HK.out], ⟨_, rfl, part_nil _ _ _ _ _ _ ?_⟩, ?_, ((Chg.refl _ _).setCell (fun _ => .inl rfl) _).alloc _⟩
  · rw [HX.out, ← HT0.out, HK.out]; simp
  · have := row_alloc (h.at' ((a : Int) + ((k : Int) + 1))) (.cells #[.int .i64 2, .bool q, .string (t.extract 0 k), .string ⟨#[]⟩, .slice none 0 0] 35)
    rw [show ((a : Int) + ((k : Int) + 1)) = ((a + 1 + k : Nat) : Int) by omega] at this ⊢
    exact this

set_option maxRecDepth 100000 in
set_option maxHeartbeats 4000000 in
theorem dollar_end (ha' : ¬ a + 1 < s.size) : Calls Try.prog 40 #[.pointer (some ⟨g, 0, none⟩), .bool q] w (ScanPost w g s d (dollarF (n + 1) d q (s.data.toList.drop (a + 1))) (fun _ => False) (PartVal w)) := by
  have hE : dollarF (n + 1) d q (s.data.toList.drop (a + 1)) = .ok (lit [36] q) (s.data.toList.drop (a + 1)) := by
    rw [drop_end s _ ha', dollarF, dollarG.eq_def]; rfl
  have HE := Lib.hid hE; clear hE
  have HN : Hid (named (s.data.toList.drop (a + 1)) = 0) := Lib.hid (by rw [drop_end s _ ha']; rfl)
  obtain ⟨h0, h1, h2, f1, _, hgl⟩ := h.cells
  have HT0 := Lib.hid (Lib.extract_to_end s (a + 1))
  have e1 : (0 : Int) ≤ (a : Int) + 1 := by omega
  have e2 : (a : Int) + 1 ≤ (s.size : Int) := by omega
  have hsz : (s.extract (a + 1) s.size).size ≤ 8192 := by simp [ByteArray.size_extract]; omega
  have HSZ := Lib.hid (extract_size s (a + 1) (by omega))
  generalize dollarF (n + 1) d q (s.data.toList.drop (a + 1)) = R at *
  go_enter Try.func40, Try.ntmps40
  go_wp2_with fail
  generalize s.extract (a + 1) s.size = t at *
  generalize hk : named t.data.toList = k at *
  have HK := Lib.hid hk; clear hk
  have hk0 : k = 0 := by have h1 : named t.data.toList = 0 := by rw [HT0.out]; exact HN.out
                         rw [← HK.out]; exact h1
  subst hk0
  have hk3 := HSZ.out
  have ht0 : ¬ 0 < t.size := by omega
  clear hk3
  have he := isEmpty_zero t ht0
  have hl := nil_zero t ht0
  have hp1 : Lib.hasPrefix t.data.toList [123] = false := by rw [hl]; rfl
  have hp2 : Lib.hasPrefix t.data.toList [40, 40] = false := by rw [hl]; rfl
  have hp3 : Lib.hasPrefix t.data.toList [40] = false := by rw [hl]; rfl
  have HLL := Lib.hid hl; clear hl
  go_wp2_with (first | (go_at_call 30; refine (named_calls _ _ (by omega)).mono ?_; rintro e w' ⟨rfl, rfl⟩; rw [HK.out]) | (go_at_call 48; refine (Try.strings_HasPrefix _ _ _).mono ?_; rintro e w' ⟨rfl, rfl⟩))
  refine (lit_calls _ _ _).mono ?_
  rintro e w1 ⟨rfl, hb1⟩
  have hc1 := Chg.of_below hb1
  have kB := row_chg (row_new (w.setCell ⟨g, 1, none⟩ (.int .i64 ((a : Int) + 1))) (.cells #[.int .i64 0, .bool false, .string ⟨#[]⟩, .string ⟨#[]⟩, .slice none 0 0] 35)) hc1 (fun e => e)
  have kG := row_chg (row_alloc (h.at' ((a : Int) + 1)) (.cells #[.int .i64 0, .bool false, .string ⟨#[]⟩, .string ⟨#[]⟩, .slice none 0 0] 35)) hc1 (fun e => e)
  rw [World.size_setCell] at kB
  have kcl := row_cells kB
  have kfr := row_free kB
  have hC : Chg (fun j => j = g ∨ False) w w1 := (((Chg.refl (fun j => j = g ∨ False) w).setCell (fun _ => .inl rfl) _).alloc _).trans hc1 (fun _ h _ => h.elim)
  have KG := Lib.hid kG; clear kG
  have hbl := row_lt kB
  have KB := Lib.hid kB; clear kB hb1 hc1
  go_wp2
  refine bodyPost_ret (v := .agg #[.int .i64 1, .bool q, .string ⟨#[36]⟩, .string ⟨#[]⟩, .slice none 0 0]) (by simp [results, Try.results40, go_sem, kcl]) rfl ?_
  rw [HE.out]
  refine ⟨_, a + 1, rfl, by omega, rfl, ⟨_, rfl, lit_rep _ [36] q |>.mono (fun _ h _ => h.elim)⟩, ?_, ?_⟩
  · have hne : g ≠ w.heap.size := by omega
    exact row_far (row_far (row_far (row_far (row_far KG.out hne _) hne _) hne _) hne _) hne _
  · exact ((((hC.setCell (fun h => absurd h (by simp)) _).setCell (fun h => absurd h (by simp)) _).setCell (fun h => absurd h (by simp)) _).setCell (fun h => absurd h (by simp)) _).setCell (fun h => absurd h (by simp)) _

set_option maxRecDepth 100000 in
set_option maxHeartbeats 4000000 in
theorem dollar_char (ha' : a + 1 < s.size) (hn : named (s.data.toList.drop (a + 1)) = 0) (hc : (digit s[a + 1] || special s[a + 1]) = true) : Calls Try.prog 40 #[.pointer (some ⟨g, 0, none⟩), .bool q] w (ScanPost w g s d (dollarF (n + 1) d q (s.data.toList.drop (a + 1))) (fun _ => False) (PartVal w)) := by
  have hE : dollarF (n + 1) d q (s.data.toList.drop (a + 1)) = .ok (.mk 2 q [s[a + 1]] [] []) (s.data.toList.drop (a + 2)) := by
    rw [byte_drop s _ ha'] at hn ⊢
    rw [dollarF, dollarG.eq_def, if_neg (by omega), if_neg (by omega)]
    simp only [hc, if_true]
  have _u := ha; clear _u
  have HE := Lib.hid hE; clear hE
  have HN := Lib.hid hn; clear hn
  obtain ⟨h0, h1, h2, f1, _, hgl⟩ := h.cells
  have HT0 := Lib.hid (Lib.extract_to_end s (a + 1))
  have e1 : (0 : Int) ≤ (a : Int) + 1 := by omega
  have e2 : (a : Int) + 1 ≤ (s.size : Int) := by omega
  have hsz : (s.extract (a + 1) s.size).size ≤ 8192 := by simp [ByteArray.size_extract]; omega
  have HSZ := Lib.hid (extract_size s (a + 1) (by omega))
  generalize dollarF (n + 1) d q (s.data.toList.drop (a + 1)) = R at *
  go_enter Try.func40, Try.ntmps40
  go_wp2_with fail
  generalize s.extract (a + 1) s.size = t at *
  generalize hk : named t.data.toList = k at *
  have HK := Lib.hid hk; clear hk
  have hk0 : k = 0 := by have h1 : named t.data.toList = 0 := by rw [HT0.out]; exact HN.out
                         rw [← HK.out]; exact h1
  subst hk0
  have hk3 := HSZ.out
  have ht0 : 0 < t.size := by omega
  clear hk3
  have he := isEmpty_pos t ht0
  have hc0 : t[0] = s[a + 1] := extract_head s (a + 1) ha' t HT0.out ht0
  have hc1 : t.data.toList = s[a + 1] :: s.data.toList.drop (a + 2) := by rw [HT0.out, byte_drop s (a + 1) ha']
  generalize s[a + 1] = c at *
  have HC1 := Lib.hid hc1; clear hc1
  have HX : Hid (t.extract 0 1 = bstr [c]) := Lib.hid (by rw [extract_one t 0 ht0, hc0])
  have e3 : (1 : Int) ≤ (t.size : Int) := by omega
  have hdg : digit c = digitB c.toNat := rfl
  rw [hdg] at hc
  cases hd : digitB c.toNat
  all_goals
    rw [hd] at hc
    try (have hsp : special c = true := by simpa using hc)
    clear hc
    go_wp2_with (first | (go_at_call 30; refine (named_calls _ _ (by omega)).mono ?_; rintro e w' ⟨rfl, rfl⟩; rw [HK.out]) | (go_at_call 16; refine (digit_calls _ _).mono ?_; rintro e w' ⟨rfl, rfl⟩) | (go_at_call 47; refine (special_calls _ _).mono ?_; rintro e w' ⟨rfl, rfl⟩))
    refine bodyPost_ret (v := .agg #[.int .i64 2, .bool q, .string (t.extract 0 1), .string ⟨#[]⟩, .slice none 0 0]) (by simp [results, Try.results40, go_sem]) rfl ?_
    rw [HE.out]
    refine ⟨_, a + 2, rfl, by omega, rfl, ⟨_, rfl, part_nil _ _ _ _ _ _ HX.out⟩, ?_, ((Chg.refl _ _).setCell (fun _ => .inl rfl) _).alloc _⟩
    exact row_alloc (h.at' ((a : Int) + 2)) (.cells #[.int .i64 2, .bool q, .string (t.extract 0 1), .string ⟨#[]⟩, .slice none 0 0] 35)

set_option maxRecDepth 100000 in
set_option maxHeartbeats 4000000 in
theorem dollar_else (ha' : a + 1 < s.size) (hn : named (s.data.toList.drop (a + 1)) = 0) (hc : (digit s[a + 1] || special s[a + 1]) = false) (h1 : (s[a + 1] == 123) = false) (h2 : (s[a + 1] == 40) = false) : Calls Try.prog 40 #[.pointer (some ⟨g, 0, none⟩), .bool q] w (ScanPost w g s d (dollarF (n + 1) d q (s.data.toList.drop (a + 1))) (fun _ => False) (PartVal w)) := by
  have hE : dollarF (n + 1) d q (s.data.toList.drop (a + 1)) = .ok (lit [36] q) (s.data.toList.drop (a + 1)) := by
    rw [byte_drop s _ ha'] at hn ⊢
    rw [dollarF, dollarG.eq_def, if_neg (by omega), if_neg (by omega)]
    simp only [hc, h1, h2, Bool.false_eq_true, if_false]
  have _u := ha; clear _u
  have HE := Lib.hid hE; clear hE
  have HN := Lib.hid hn; clear hn
  have H1 := Lib.hid h1; clear h1
  have H2 := Lib.hid h2; clear h2
  obtain ⟨h0, h1, h2, f1, _, hgl⟩ := h.cells
  have HT0 := Lib.hid (Lib.extract_to_end s (a + 1))
  have e1 : (0 : Int) ≤ (a : Int) + 1 := by omega
  have e2 : (a : Int) + 1 ≤ (s.size : Int) := by omega
  have hsz : (s.extract (a + 1) s.size).size ≤ 8192 := by simp [ByteArray.size_extract]; omega
  have HSZ := Lib.hid (extract_size s (a + 1) (by omega))
  generalize dollarF (n + 1) d q (s.data.toList.drop (a + 1)) = R at *
  go_enter Try.func40, Try.ntmps40
  go_wp2_with fail
  generalize s.extract (a + 1) s.size = t at *
  generalize hk : named t.data.toList = k at *
  have HK := Lib.hid hk; clear hk
  have hk0 : k = 0 := by have h1 : named t.data.toList = 0 := by rw [HT0.out]; exact HN.out
                         rw [← HK.out]; exact h1
  subst hk0
  have hk3 := HSZ.out
  have ht0 : 0 < t.size := by omega
  clear hk3
  have he := isEmpty_pos t ht0
  have hc0 : t[0] = s[a + 1] := extract_head s (a + 1) ha' t HT0.out ht0
  have hc1 : t.data.toList = s[a + 1] :: s.data.toList.drop (a + 2) := by rw [HT0.out, byte_drop s (a + 1) ha']
  generalize s[a + 1] = c at *
  have HC1 := Lib.hid hc1; clear hc1
  have hdg : digit c = digitB c.toNat := rfl
  rw [hdg] at hc
  have hd : digitB c.toNat = false := by revert hc; cases digitB c.toNat <;> simp
  have hsp : special c = false := by revert hc; cases special c <;> simp
  clear hc hdg
  have hp1 : Lib.hasPrefix t.data.toList [123] = false := by rw [HC1.out, prefix_one]; exact H1.out
  have hp2 : Lib.hasPrefix t.data.toList [40, 40] = false := by
    rw [HC1.out]
    cases s.data.toList.drop (a + 2) with
    | nil => exact prefix_two_one ..
    | cons e l => rw [prefix_two, H2.out]; rfl
  have hp3 : Lib.hasPrefix t.data.toList [40] = false := by rw [HC1.out, prefix_one]; exact H2.out
  go_wp2_with (first | (go_at_call 30; refine (named_calls _ _ (by omega)).mono ?_; rintro e w' ⟨rfl, rfl⟩; rw [HK.out]) | (go_at_call 48; refine (Try.strings_HasPrefix _ _ _).mono ?_; rintro e w' ⟨rfl, rfl⟩) | (go_at_call 16; refine (digit_calls _ _).mono ?_; rintro e w' ⟨rfl, rfl⟩) | (go_at_call 47; refine (special_calls _ _).mono ?_; rintro e w' ⟨rfl, rfl⟩))
  refine (lit_calls _ _ _).mono ?_
  rintro e w1 ⟨rfl, hb1⟩
  have hc1 := Chg.of_below hb1
  have kB := row_chg (row_new (w.setCell ⟨g, 1, none⟩ (.int .i64 ((a : Int) + 1))) (.cells #[.int .i64 0, .bool false, .string ⟨#[]⟩, .string ⟨#[]⟩, .slice none 0 0] 35)) hc1 (fun e => e)
  have kG := row_chg (row_alloc (h.at' ((a : Int) + 1)) (.cells #[.int .i64 0, .bool false, .string ⟨#[]⟩, .string ⟨#[]⟩, .slice none 0 0] 35)) hc1 (fun e => e)
  rw [World.size_setCell] at kB
  have kcl := row_cells kB
  have kfr := row_free kB
  have hC : Chg (fun j => j = g ∨ False) w w1 := (((Chg.refl (fun j => j = g ∨ False) w).setCell (fun _ => .inl rfl) _).alloc _).trans hc1 (fun _ h _ => h.elim)
  have KG := Lib.hid kG; clear kG
  have hbl := row_lt kB
  have KB := Lib.hid kB; clear kB hb1 hc1
  go_wp2
  refine bodyPost_ret (v := .agg #[.int .i64 1, .bool q, .string ⟨#[36]⟩, .string ⟨#[]⟩, .slice none 0 0]) (by simp [results, Try.results40, go_sem, kcl]) rfl ?_
  rw [HE.out]
  refine ⟨_, a + 1, rfl, by omega, rfl, ⟨_, rfl, lit_rep _ [36] q |>.mono (fun _ h _ => h.elim)⟩, ?_, ?_⟩
  · have hne : g ≠ w.heap.size := by omega
    exact row_far (row_far (row_far (row_far (row_far KG.out hne _) hne _) hne _) hne _) hne _
  · exact ((((hC.setCell (fun h => absurd h (by simp)) _).setCell (fun h => absurd h (by simp)) _).setCell (fun h => absurd h (by simp)) _).setCell (fun h => absurd h (by simp)) _).setCell (fun h => absurd h (by simp)) _
end
end Go.Proofs.Ytdfnkmiabmjolaa
