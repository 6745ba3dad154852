/- Walks of package match: is a byte one of a set's. -/
import Derived.Test.YtbjejnegfojnmaaM3
import Derived.Deep.LoopGhost
import Derived.Below
namespace Go.Proofs.Ytbjejnegfojnmaa
open Go.RowKit
set_option linter.unusedVariables false
set_option linter.unusedSimpArgs false

theorem signL_len (l : Bytes) (h : l ≠ []) : (signL l).2.length < l.length := by
  unfold signL
  split
  · simp; omega
  · simp
  · exact absurd rfl h
theorem inF_nil (n : Nat) (x : UInt8) : inF n [] x = false := by cases n <;> rfl
theorem inF_range (n : Nat) (l : Bytes) (x d : UInt8) (r : Bytes) (h : l ≠ []) (h1 : (signL l).2 = 45 :: d :: r) :
    inF (n + 1) l x = ((decide ((signL l).1 ≤ x) && decide (x ≤ (signL (d :: r)).1)) || inF n (signL (d :: r)).2 x) := by
  cases l with
  | nil => exact absurd rfl h
  | cons c l => rw [inF, h1]; rfl
theorem inF_one (n : Nat) (l : Bytes) (x : UInt8) (h : l ≠ []) (h1 : ∀ d r, (signL l).2 ≠ 45 :: d :: r) :
    inF (n + 1) l x = (((signL l).1 == x) || inF n (signL l).2 x) := by
  cases l with
  | nil => exact absurd rfl h
  | cons c l =>
    rw [inF]
    split
    · rename_i d r heq; exact absurd heq (h1 d r)
    · rfl
theorem inL_cut (l : Bytes) (x : UInt8) (b : Bool) (t : Bytes) (hb : (l.head? == some 33) = b) (ht : t = if b then l.drop 1 else l) : inL l x = (inF (t.length + 1) t x != b) := by
  subst hb
  subst ht
  unfold inL
  split
  · simp
  · rename_i r h
    cases l with
    | nil => simp
    | cons c l =>
      have : ((c :: l).head? == some 33) = false := by
        rw [beq_eq_false_iff_ne]
        simp only [List.head?_cons]
        intro e
        exact h l (by simpa using e)
      rw [this]
      simp
theorem le_byte (a c : UInt8) : decide ((a.toNat : Int) ≤ (c.toNat : Int)) = decide (a ≤ c) := by
  rw [Bool.eq_iff_iff]; simp [UInt8.le_iff_toNat_le]
theorem both_byte (a c : UInt8) : (decide (a ≤ c) && decide (c ≤ a)) = (a == c) := by
  rw [Bool.eq_iff_iff]; simp [UInt8.le_iff_toNat_le, ← UInt8.toNat_inj]; omega

set_option pp.deepTerms true in
set_option pp.maxSteps 200000 in
set_option maxRecDepth 100000 in
set_option maxHeartbeats 2000000 in
theorem in_calls (s : ByteArray) (c : UInt8) (w : World) :
    Calls Try.prog 33 #[.string s, .int .u8 c.toNat] w fun e w' => e = .returned (.bool (inL s.data.toList c)) ∧ ∃ m, w' = w.drewN m := by
  have hcut := cutbang_calls s w
  generalize hb : (s.data.toList.head? == some 33) = b at hcut
  have hin := fun t => inL_cut s.data.toList c b t hb
  generalize (if b then s.data.toList.drop 1 else s.data.toList) = T at hcut hin
  have hin := hin T rfl
  rw [hin]
  clear hin hb
  generalize hR : inF (T.length + 1) T c = R
  have HR := Lib.hid hR; clear hR
  go_enter Try.func33, Try.ntmps33
  go_wp2_with fail
  refine Calls.mono hcut ?_
  rintro e w' ⟨⟨t, rfl, ht⟩, rfl⟩
  clear hcut
  have HT0 := Lib.hid ht; clear ht
  go_wp2
  go_loopg [5, 7] (T.length + 1) (fun n rv fv wr => ∃ (t : ByteArray) (f : Bool), rv = .string t ∧ fv = .bool f ∧ t.size < n ∧ Hid ((f || inF n t.data.toList c) = R) ∧ ∃ m, wr = w.drewN m)
  case atStart => exact ⟨t, false, rfl, rfl, by rw [← HT0.out, len_data]; omega, Lib.hid (by rw [HT0.out, HR.out]; rfl), 0, rfl⟩
  case round =>
    obtain ⟨t, f, rfl, rfl, hn, HF, m, rfl⟩ := hrel
    by_cases h0 : 0 < t.size
    · have hne : (t.toList == []) = false := by
        rw [ByteArray.toList_eq, beq_eq_false_iff_ne]
        intro e
        have h1 := len_data t
        rw [e] at h1
        simp at h1; omega
      have hnil : t.data.toList ≠ [] := by
        intro e
        have h1 := len_data t
        rw [e] at h1
        simp at h1; omega
      have hlen := signL_len t.data.toList hnil
      obtain ⟨g, rfl⟩ : ∃ g, gk = g + 1 := ⟨gk - 1, by omega⟩
      go_wp2_with fail
      refine Calls.mono (sign_calls t _ h0) ?_
      rintro e w1 ⟨⟨t1, rfl, ht1⟩, m1, rfl⟩
      have hz1 : t1.size < t.size := by rw [← len_data t1, ht1, ← len_data t]; exact hlen
      clear hlen
      have HT1 := Lib.hid ht1; clear ht1
      generalize hA : (signL t.data.toList).1 = a at *
      have HA := Lib.hid hA; clear hA
      by_cases h1 : 1 < t1.size
      · have q1 : (1 : Int) < (t1.size : Int) := by omega
        have q2 : (0 : Int) < (t1.size : Int) := by omega
        have q3 : (1 : Int) ≤ (t1.size : Int) := by omega
        have hq45 : ((t1[0].toNat : Int) == 45) = (t1[0] == 45) := byte_eqn t1[0] 45 (by decide)
        have hd0 := data_cons t1 (by omega)
        have hd1 := byte_drop t1 1 h1
        have hdd : (signL t.data.toList).2 = t1[0] :: t1[1] :: t1.data.toList.drop 2 := by rw [← HT1.out]; exact hd0.trans (congrArg (t1[0] :: ·) hd1)
        clear hd0
        cases h45 : t1[0] == 45
        case true =>
          rw [h45] at hq45
          rw [show t1[0] = 45 by simpa using h45] at hdd
          have HF1 := Lib.hid (inF_range g t.data.toList c _ _ hnil hdd)
          have HX := Lib.hid (Lib.extract_to_end t1 1)
          have hsz : 0 < (t1.extract 1 t1.size).size := by simp [ByteArray.size_extract]; omega
          have hsz1 : (t1.extract 1 t1.size).size < t1.size := by simp [ByteArray.size_extract]; omega
          have hS := fun w => sign_calls (t1.extract 1 t1.size) w hsz
          rw [Lib.extract_to_end, hd1] at hS
          have hlen2 := signL_len (t1[1] :: t1.data.toList.drop 2) (by simp)
          have hlen3 : (t1[1] :: t1.data.toList.drop 2).length < t1.size := by rw [← hd1, List.length_drop, len_data]; omega
          clear hdd hd1 hsz
          revert hS hlen2 hlen3
          generalize t1[1] :: t1.data.toList.drop 2 = U at *
          intro hS hlen2 hlen3
          go_wp2_with fail
          refine Calls.mono (hS _) ?_
          rintro e w2 ⟨⟨t2, rfl, ht2⟩, m2, rfl⟩
          have hz2 : t2.size < t1.size := by rw [← len_data t2, ht2]; omega
          have HT2 := Lib.hid ht2; clear ht2 hlen2 hlen3 hS
          generalize hB : (signL U).1 = b1 at *
          have HB := Lib.hid hB; clear hB
          go_wp2
          all_goals
            go_roundg g
            case measure => omega
            case rel => exact ⟨t2, _, rfl, rfl, by omega, Lib.hid (by rw [← HF.out, HF1.out, HA.out, HT2.out, ← le_byte, ← le_byte]; simp [*]), _, rfl⟩
        case false =>
          rw [h45] at hq45
          have HF1 := Lib.hid (inF_one g t.data.toList c hnil (by rw [hdd]; intro d r e; simp only [List.cons.injEq] at e; rw [e.1] at h45; exact absurd h45 (by decide)))
          clear hdd hd1
          go_wp2
          all_goals
            go_roundg g
            case measure => omega
            case rel => exact ⟨t1, _, rfl, rfl, by omega, Lib.hid (by rw [← HF.out, HF1.out, HA.out, HT1.out, ← both_byte, ← le_byte, ← le_byte]; simp [*]), _, rfl⟩
      · have q1 : decide ((1 : Int) < (t1.size : Int)) = false := by simp; omega
        have HF1 := Lib.hid (inF_one g t.data.toList c hnil (by
          rw [← HT1.out]
          intro d r e
          have h2 := len_data t1
          rw [e] at h2
          simp at h2; omega))
        go_wp2
        all_goals
          go_roundg g
          case measure => omega
          case rel => exact ⟨t1, _, rfl, rfl, by omega, Lib.hid (by rw [← HF.out, HF1.out, HA.out, HT1.out, ← both_byte, ← le_byte, ← le_byte]; simp [*]), _, rfl⟩
    · have hne : (t.toList == []) = true := by
        rw [ByteArray.toList_eq, show t.data.toList = [] from drop_end t 0 h0]; rfl
      have HF1 : Hid (f = R) := Lib.hid (by rw [← HF.out, show t.data.toList = [] from drop_end t 0 h0, inF_nil, Bool.or_false])
      clear hn
      go_wp2
      go_ret
      exact ⟨by rw [HF1.out, ← HR.out]; try rfl, _, rfl⟩
end Go.Proofs.Ytbjejnegfojnmaa
