/- Walks of package match and its reference: Quote, Plain. -/
import Derived.Test.YtbjejnegfojnmaaM20
namespace Go.Proofs.Ytbjejnegfojnmaa
open Go.RowKit
set_option linter.unusedVariables false
set_option linter.unusedSimpArgs false

theorem bstr_append (s t : Bytes) : bstr s ++ bstr t = bstr (s ++ t) := ByteArray.mk_append_mk s t
theorem indexByte_has (c : UInt8) : ∀ l : Bytes, (Lib.indexByte l c = -1 ∧ l.contains c = false) ∨ (0 ≤ Lib.indexByte l c ∧ l.contains c = true)
  | [] => .inl ⟨rfl, rfl⟩
  | b :: l => by
    rw [Lib.indexByte, List.contains_cons]
    by_cases h : (b == c) = true
    · right
      have h' : (c == b) = true := by rw [beq_iff_eq] at h ⊢; exact h.symm
      rw [if_pos h, h']
      exact ⟨by omega, rfl⟩
    · have h' : (c == b) = false := by
        rw [beq_eq_false_iff_ne]
        intro e
        exact h (by rw [e]; exact beq_self_eq_true b)
      rw [if_neg h, h', Bool.false_or]
      rcases indexByte_has c l with ⟨h1, h2⟩ | ⟨h1, h2⟩
      · left; rw [h1]; exact ⟨rfl, h2⟩
      · right
        have : (Lib.indexByte l c == -1) = false := by
          rw [beq_eq_false_iff_ne]; omega
        rw [this]
        exact ⟨by simp; omega, h2⟩
theorem special_has (c : UInt8) : [42, 63, 91, 93, 33, 45, 92].contains c = special c := by
  simp only [special, List.contains_cons, List.contains_nil, Bool.or_assoc, Bool.or_false]
theorem ix_special (c : UInt8) (b : Bool) (hb : special c = b) (w : World) :
    Calls Try.prog 22 #[.string ⟨#[42, 63, 91, 93, 33, 45, 92]⟩, .int .u8 c.toNat] w fun e w' => (∃ x : Int, e = .returned (.int .i64 x) ∧ decide (0 ≤ x) = b) ∧ w = w' := by
  refine (Try.strings_IndexByte _ _ _).mono ?_
  rintro e w' ⟨rfl, rfl⟩
  refine ⟨⟨_, rfl, ?_⟩, rfl⟩
  have hc : ((c.toNat : Int)).toNat.toUInt8 = c := by simp
  rw [hc]
  have h := indexByte_has c [42, 63, 91, 93, 33, 45, 92]
  rw [special_has, hb] at h
  show decide (0 ≤ Lib.indexByte [42, 63, 91, 93, 33, 45, 92] c) = b
  rcases h with ⟨h1, h2⟩ | ⟨h1, h2⟩
  · rw [h1, h2]; rfl
  · rw [h2]; exact decide_eq_true h1
theorem quote_snoc (l : Bytes) (c : UInt8) : quoteL (l ++ [c]) = quoteL l ++ (if special c then [92, c] else [c]) := by simp [quoteL]
theorem take_snoc (s : ByteArray) (k : Nat) (h : k < s.size) : s.data.toList.take (k + 1) = s.data.toList.take k ++ [s[k]] := by
  rw [List.take_succ_eq_append_getElem (by rw [len_data]; exact h)]; rfl
theorem quote_len (l : Bytes) : (quoteL l).length ≤ 2 * l.length := by
  induction l with
  | nil => simp [quoteL]
  | cons c l ih =>
    have e : quoteL (c :: l) = (if special c then [92, c] else [c]) ++ quoteL l := by simp [quoteL]
    rw [e, List.length_append, List.length_cons]
    split <;> simp <;> omega
theorem bv_new (w : World) (M : Nat) : BV M w.heap.size (.slice none 0 0) [] (w.alloc (.cells #[.pointer none, .slice none 0 0] 39)) :=
  ⟨.pointer none, .inl rfl, row_new w _, World.ownsRow_nil _ _ _ _, by simp [Value.ownBlock]⟩

set_option maxRecDepth 100000 in
set_option maxHeartbeats 2000000 in
theorem Quote_calls (s : ByteArray) (w : World) (hs : s.size ≤ 100000) :
    Calls Try.prog 15 #[.string s] w fun e w' => e = .returned (.string (bstr (quoteL s.data.toList))) ∧ Chg (fun _ => False) w w' := by
  go_enter Try.func15, Try.ntmps15
  go_wp2
  go_loopg [7] s.size (fun n iv wr => ∃ (i : Nat) (v : Value), iv = .int .i64 i ∧ i + n = s.size ∧ BV w.heap.size w.heap.size v (quoteL (s.data.toList.take i)) wr ∧ Chg (fun _ => False) w wr)
  case atStart => exact ⟨0, _, rfl, by omega, bv_new w _, (Chg.refl _ _).alloc _⟩
  case round =>
    obtain ⟨i, v, rfl, hi, HB, hC⟩ := hrel
    have hz := hC.size
    by_cases hlt : i < s.size
    · have p0 : (0 : Int) ≤ (i : Int) := by omega
      have p1 : (i : Int) < (s.size : Int) := by omega
      have HT := Lib.hid (take_snoc s i hlt)
      have hq := quote_len (s.data.toList.take i)
      have hql : (quoteL (s.data.toList.take i)).length ≤ 400000 := by rw [List.length_take] at hq; omega
      have HQ := Lib.hid (quote_snoc (s.data.toList.take i) s[i])
      cases hsp : special s[i]
      case false =>
        have HQ2 : Hid (quoteL (s.data.toList.take (i + 1)) = quoteL (s.data.toList.take i) ++ [s[i]]) := Lib.hid (by rw [HT.out, HQ.out, hsp]; rfl)
        have hix := fun w => ix_special s[i] false hsp w
        clear hq hsp
        go_wp2_with fail
        refine Calls.mono (hix _) ?_
        rintro e w1 ⟨⟨x, rfl, hx⟩, rfl⟩
        clear hix
        go_wp2_with fail
        refine Calls.mono (WriteByte_calls _ _ v _ s[i] _ HB (by omega) (by omega)) ?_
        rintro e w2 ⟨rfl, v1, HB1, hC1⟩
        have hC2 : Chg (fun _ => False) w w2 := hC.trans hC1 (fun k h hl => by
          rcases h with h | h
          · omega
          · have := HB.own k h.symm; omega)
        clear hx
        go_wp2
        go_roundg (gk - 1)
        case measure => omega
        case rel => exact ⟨i + 1, v1, by go_num, by omega, by rw [HQ2.out]; exact HB1, hC2⟩
      case true =>
        have HQ2 : Hid (quoteL (s.data.toList.take (i + 1)) = (quoteL (s.data.toList.take i) ++ [92]) ++ [s[i]]) := Lib.hid (by rw [HT.out, HQ.out, hsp]; simp)
        have hix := fun w => ix_special s[i] true hsp w
        clear hq hsp
        go_wp2_with fail
        refine Calls.mono (hix _) ?_
        rintro e w1 ⟨⟨x, rfl, hx⟩, rfl⟩
        clear hix
        go_wp2_with fail
        refine Calls.mono (WriteByte_calls _ _ v _ 92 _ HB (by omega) (by omega)) ?_
        rintro e w2 ⟨rfl, v1, HB1, hC1⟩
        have hC2 : Chg (fun _ => False) w w2 := hC.trans hC1 (fun k h hl => by
          rcases h with h | h
          · omega
          · have := HB.own k h.symm; omega)
        have hz2 := hC2.size
        clear hx
        go_wp2_with fail
        refine Calls.mono (WriteByte_calls _ _ v1 _ s[i] _ HB1 (by simp; omega) (by omega)) ?_
        rintro e w3 ⟨rfl, v2, HB2, hC3⟩
        have hC4 : Chg (fun _ => False) w w3 := hC2.trans hC3 (fun k h hl => by
          rcases h with h | h
          · omega
          · have := HB1.own k h.symm; omega)
        go_wp2
        go_roundg (gk - 1)
        case measure => omega
        case rel => exact ⟨i + 1, v2, by go_num, by omega, by rw [HQ2.out]; exact HB2, hC4⟩
    · have p1 : decide ((i : Int) < (s.size : Int)) = false := by rw [decide_eq_false_iff_not]; omega
      have p1' : decide (i < s.size) = false := by rw [decide_eq_false_iff_not]; omega
      have HT : Hid (s.data.toList.take i = s.data.toList) := Lib.hid (List.take_of_length_le (by rw [len_data]; omega))
      rw [HT.out] at HB
      clear hi hlt
      go_wp2_with fail
      refine Calls.mono (Try.Builder_String_any w.heap.size w.heap.size _ _ (HB.bat (Nat.le_refl _) (Nat.le_refl _)) (by omega)) ?_
      rintro e w2 ⟨rfl, hb2⟩
      go_wp2
      go_ret
      refine ⟨rfl, ⟨hb2.os.trans hC.os, hb2.tape.trans hC.tape, hb2.output.trans hC.output, Nat.le_trans hC.size hb2.size, fun k hk _ => (hb2.block k hk).trans (hC.block k hk (fun e => e))⟩⟩

set_option maxRecDepth 100000 in
set_option maxHeartbeats 2000000 in
theorem RQuote_calls (s : ByteArray) (w : World) (hs : s.size ≤ 100000) :
    Calls Try.prog 18 #[.string s] w fun e w' => e = .returned (.string (bstr (quoteL s.data.toList))) ∧ w = w' := by
  go_enter Try.func18, Try.ntmps18
  go_wp2
  go_loop [3, 4] (fun ov iv => ∃ i : Nat, iv = .int .i64 i ∧ i ≤ s.size ∧ ov = .string (bstr (quoteL (s.data.toList.take i)))) (fun ov iv => s.size - (intOf iv).toNat)
  case atStart => exact ⟨0, rfl, by omega, rfl⟩
  case round =>
    obtain ⟨i, rfl, hi, rfl⟩ := hrel
    by_cases hlt : i < s.size
    · have p0 : (0 : Int) ≤ (i : Int) := by omega
      have p1 : (i : Int) < (s.size : Int) := by omega
      have p2 : (i : Int) ≤ (i : Int) + 1 := by omega
      have p3 : (i : Int) + 1 ≤ (s.size : Int) := by omega
      have HT := Lib.hid (take_snoc s i hlt)
      have hq := quote_len (s.data.toList.take i)
      have hql : (quoteL (s.data.toList.take i)).length ≤ 400000 := by rw [List.length_take] at hq; omega
      have hqz : (bstr (quoteL (s.data.toList.take i))).size ≤ 400000 := by rw [bstr_size]; exact hql
      have HQ := Lib.hid (quote_snoc (s.data.toList.take i) s[i])
      have HX := Lib.hid (extract_one s i hlt)
      have hq42 : ((s[i].toNat : Int) == 42) = (s[i] == 42) := byte_eqn s[i] 42 (by decide)
      have hq63 : ((s[i].toNat : Int) == 63) = (s[i] == 63) := byte_eqn s[i] 63 (by decide)
      have hq91 : ((s[i].toNat : Int) == 91) = (s[i] == 91) := byte_eqn s[i] 91 (by decide)
      have hq93 : ((s[i].toNat : Int) == 93) = (s[i] == 93) := byte_eqn s[i] 93 (by decide)
      have hq33 : ((s[i].toNat : Int) == 33) = (s[i] == 33) := byte_eqn s[i] 33 (by decide)
      have hq45 : ((s[i].toNat : Int) == 45) = (s[i] == 45) := byte_eqn s[i] 45 (by decide)
      have hq92 : ((s[i].toNat : Int) == 92) = (s[i] == 92) := byte_eqn s[i] 92 (by decide)
      have hz1 : ¬ (9223372036854775807 < (bstr (quoteL (s.data.toList.take i))).size + 1) := by omega
      have hz2 : ¬ (9223372036854775807 < (bstr (quoteL (s.data.toList.take i))).size + 1 + 1) := by omega
      cases h42 : s[i] == 42
      case true =>
        rw [h42] at hq42
        have hsp : special s[i] = true := by rw [show s[i] = _ by simpa using h42]; rfl
        have HQ2 : Hid (quoteL (s.data.toList.take (i + 1)) = (quoteL (s.data.toList.take i) ++ [92]) ++ [s[i]]) := Lib.hid (by rw [HT.out, HQ.out, hsp]; simp)
        clear h42 hsp hq
        go_wp2
        go_round
        case rel => exact ⟨i + 1, by go_num, by omega, by rw [HQ2.out, HX.out, ← bstr_append, ← bstr_append]; rfl⟩
        case measure => simp [intOf]; omega
      case false =>
        rw [h42] at hq42
        cases h63 : s[i] == 63
        case true =>
          rw [h63] at hq63
          have hsp : special s[i] = true := by rw [show s[i] = _ by simpa using h63]; rfl
          have HQ2 : Hid (quoteL (s.data.toList.take (i + 1)) = (quoteL (s.data.toList.take i) ++ [92]) ++ [s[i]]) := Lib.hid (by rw [HT.out, HQ.out, hsp]; simp)
          clear h63 hsp hq
          go_wp2
          go_round
          case rel => exact ⟨i + 1, by go_num, by omega, by rw [HQ2.out, HX.out, ← bstr_append, ← bstr_append]; rfl⟩
          case measure => simp [intOf]; omega
        case false =>
          rw [h63] at hq63
          cases h91 : s[i] == 91
          case true =>
            rw [h91] at hq91
            have hsp : special s[i] = true := by rw [show s[i] = _ by simpa using h91]; rfl
            have HQ2 : Hid (quoteL (s.data.toList.take (i + 1)) = (quoteL (s.data.toList.take i) ++ [92]) ++ [s[i]]) := Lib.hid (by rw [HT.out, HQ.out, hsp]; simp)
            clear h91 hsp hq
            go_wp2
            go_round
            case rel => exact ⟨i + 1, by go_num, by omega, by rw [HQ2.out, HX.out, ← bstr_append, ← bstr_append]; rfl⟩
            case measure => simp [intOf]; omega
          case false =>
            rw [h91] at hq91
            cases h93 : s[i] == 93
            case true =>
              rw [h93] at hq93
              have hsp : special s[i] = true := by rw [show s[i] = _ by simpa using h93]; rfl
              have HQ2 : Hid (quoteL (s.data.toList.take (i + 1)) = (quoteL (s.data.toList.take i) ++ [92]) ++ [s[i]]) := Lib.hid (by rw [HT.out, HQ.out, hsp]; simp)
              clear h93 hsp hq
              go_wp2
              go_round
              case rel => exact ⟨i + 1, by go_num, by omega, by rw [HQ2.out, HX.out, ← bstr_append, ← bstr_append]; rfl⟩
              case measure => simp [intOf]; omega
            case false =>
              rw [h93] at hq93
              cases h33 : s[i] == 33
              case true =>
                rw [h33] at hq33
                have hsp : special s[i] = true := by rw [show s[i] = _ by simpa using h33]; rfl
                have HQ2 : Hid (quoteL (s.data.toList.take (i + 1)) = (quoteL (s.data.toList.take i) ++ [92]) ++ [s[i]]) := Lib.hid (by rw [HT.out, HQ.out, hsp]; simp)
                clear h33 hsp hq
                go_wp2
                go_round
                case rel => exact ⟨i + 1, by go_num, by omega, by rw [HQ2.out, HX.out, ← bstr_append, ← bstr_append]; rfl⟩
                case measure => simp [intOf]; omega
              case false =>
                rw [h33] at hq33
                cases h45 : s[i] == 45
                case true =>
                  rw [h45] at hq45
                  have hsp : special s[i] = true := by rw [show s[i] = _ by simpa using h45]; rfl
                  have HQ2 : Hid (quoteL (s.data.toList.take (i + 1)) = (quoteL (s.data.toList.take i) ++ [92]) ++ [s[i]]) := Lib.hid (by rw [HT.out, HQ.out, hsp]; simp)
                  clear h45 hsp hq
                  go_wp2
                  go_round
                  case rel => exact ⟨i + 1, by go_num, by omega, by rw [HQ2.out, HX.out, ← bstr_append, ← bstr_append]; rfl⟩
                  case measure => simp [intOf]; omega
                case false =>
                  rw [h45] at hq45
                  cases h92 : s[i] == 92
                  case true =>
                    rw [h92] at hq92
                    have hsp : special s[i] = true := by rw [show s[i] = _ by simpa using h92]; rfl
                    have HQ2 : Hid (quoteL (s.data.toList.take (i + 1)) = (quoteL (s.data.toList.take i) ++ [92]) ++ [s[i]]) := Lib.hid (by rw [HT.out, HQ.out, hsp]; simp)
                    clear h92 hsp hq
                    go_wp2
                    go_round
                    case rel => exact ⟨i + 1, by go_num, by omega, by rw [HQ2.out, HX.out, ← bstr_append, ← bstr_append]; rfl⟩
                    case measure => simp [intOf]; omega
                  case false =>
                    rw [h92] at hq92
                    have hsp : special s[i] = false := by simp only [special, h42, h63, h91, h93, h33, h45, h92]; rfl
                    have HQ2 : Hid (quoteL (s.data.toList.take (i + 1)) = quoteL (s.data.toList.take i) ++ [s[i]]) := Lib.hid (by rw [HT.out, HQ.out, hsp]; rfl)
                    clear h42 h63 h91 h93 h33 h45 h92 hsp hq
                    go_wp2
                    go_round
                    case rel => exact ⟨i + 1, by go_num, by omega, by rw [HQ2.out, HX.out, bstr_append]⟩
                    case measure => simp [intOf]; omega
    · have p1 : decide ((i : Int) < (s.size : Int)) = false := by rw [decide_eq_false_iff_not]; omega
      have p1' : decide (i < s.size) = false := by rw [decide_eq_false_iff_not]; omega
      have HT : Hid (s.data.toList.take i = s.data.toList) := Lib.hid (List.take_of_length_le (by rw [len_data]; omega))
      go_wp2
      go_ret
      exact ⟨by rw [HT.out]; rfl, rfl⟩
end Go.Proofs.Ytbjejnegfojnmaa
