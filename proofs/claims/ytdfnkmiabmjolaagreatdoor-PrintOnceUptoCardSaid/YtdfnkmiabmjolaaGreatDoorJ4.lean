/- Walks of package word: what only looks at texts. And what stands with it. -/
import Derived.Test.YtdfnkmiabmjolaaGreatDoorJ3
import Derived.Lib.Hide
set_option linter.unusedVariables false
set_option linter.unusedSimpArgs false
namespace Go.Proofs.YtdfnkmiabmjolaaGreatDoor
open Go.RowKit
theorem byte_drop (s : ByteArray) (i : Nat) (h : i < s.size) : s.data.toList.drop i = s[i] :: s.data.toList.drop (i + 1) := by
 rw [List.drop_eq_getElem_cons (by rw [len_data]; exact h)]
 rfl
theorem drop_end (s : ByteArray) (i : Nat) (h : ¬ i < s.size) : s.data.toList.drop i = [] := List.drop_eq_nil_of_le (by rw [len_data]; omega)
theorem ret_int {k : IntKind} {a b : Int} (h : a = b) : Ending.returned (.int k a) = .returned (.int k b) := by rw [h]
theorem letter_calls (n : Int) (w : World) : Calls Tryz.prog 159 #[.int .u8 n] w fun e w' => e = .returned (.bool (letterB n)) ∧ w = w' := by
 unfold letterB
 by_cases h1 : n = 95
 ·subst h1
  go_enter Tryz.func159, Tryz.ntmps159
  go_wp2
  go_ret
  exact ⟨by simp, rfl⟩
 ·have h1' : (n == 95) = false := by simpa using h1
  by_cases h2 : 97 ≤ n <;> by_cases h3 : n ≤ 122 <;> by_cases h4 : 65 ≤ n <;> by_cases h5 : n ≤ 90
  all_goals first | (exfalso; omega) | skip
  all_goals
   go_enter Tryz.func159, Tryz.ntmps159
   go_wp2
   go_ret
   exact ⟨by simp [*], rfl⟩
theorem digit_calls (n : Int) (w : World) : Calls Tryz.prog 125 #[.int .u8 n] w fun e w' => e = .returned (.bool (digitB n)) ∧ w = w' := by
 unfold digitB
 by_cases h2 : 48 ≤ n <;> by_cases h3 : n ≤ 57
 all_goals
  go_enter Tryz.func125, Tryz.ntmps125
  go_wp2
  go_ret
  exact ⟨by simp [*], rfl⟩
theorem indexByte_neg (l : List UInt8) (c : UInt8) : decide (0 ≤ Lib.indexByte l c) = l.contains c := by
 induction l with
 | nil => rfl
 | cons b l ih =>
  have hg := Lib.indexByte_ge l c
  rw [Lib.indexByte, List.contains_cons, ← ih]
  by_cases h : b = c
  ·simp [h]
  ·have h1 : (b == c) = false := by simpa using h
   have h2 : (c == b) = false := by simpa using fun e => h e.symm
   rw [h1, h2]
   by_cases h3 : Lib.indexByte l c = -1
   ·rw [h3]; rfl
   ·have h4 : (Lib.indexByte l c == -1) = false := by simpa using h3
    simp only [Bool.false_eq_true, if_false, h4, Bool.false_or, decide_eq_decide]
    omega
theorem meta_calls (c : UInt8) (w : World) : Calls Tryz.prog 107 #[.int .u8 c.toNat] w fun e w' => e = .returned (.bool (metaB c)) ∧ w = w' := by
 have h := indexByte_neg metas c
 go_enter Tryz.func107, Tryz.ntmps107
 go_wp2_with (go_at_call 109; refine (Tryz.strings_IndexByte _ _ _).mono ?_; rintro e w' ⟨rfl, rfl⟩)
 go_ret
 exact ⟨congrArg (fun b => Ending.returned (.bool b)) h, rfl⟩
theorem special_calls (c : UInt8) (w : World) : Calls Tryz.prog 143 #[.int .u8 c.toNat] w fun e w' => e = .returned (.bool (special c)) ∧ w = w' := by
 have h := indexByte_neg specials c
 go_enter Tryz.func143, Tryz.ntmps143
 go_wp2_with (go_at_call 109; refine (Tryz.strings_IndexByte _ _ _).mono ?_; rintro e w' ⟨rfl, rfl⟩)
 go_ret
 exact ⟨congrArg (fun b => Ending.returned (.bool b)) h, rfl⟩
theorem named_cons (s : ByteArray) (h : 0 < s.size) : named s.data.toList = if letterB s[0].toNat then 1 + ((s.data.toList.drop 1).takeWhile alnum).length else 0 := by
 have e := byte_drop s 0 h
 simp only [List.drop_zero, Nat.zero_add] at e
 rw [e]
 rfl
theorem takeWhile_step {p : UInt8 → Bool} (s : ByteArray) (k : Nat) (h : k < s.size) : ((s.data.toList.drop k).takeWhile p).length = if p s[k] then 1 + ((s.data.toList.drop (k + 1)).takeWhile p).length else 0 := by
 rw [byte_drop s k h, List.takeWhile_cons]
 split <;> simp [Nat.add_comm]
theorem takeWhile_end {p : UInt8 → Bool} (s : ByteArray) (k : Nat) (h : ¬ k < s.size) : ((s.data.toList.drop k).takeWhile p).length = 0 := by
 rw [drop_end s k h]
 rfl
theorem isEmpty_pos (s : ByteArray) (h : 0 < s.size) : s.toList.isEmpty = false := by
 rw [ByteArray.toList_eq]
 cases hl : s.data.toList with
 | nil => have := len_data s; rw [hl] at this; simp at this; omega
 | cons _ _ => rfl
theorem isEmpty_zero (s : ByteArray) (h : ¬ 0 < s.size) : s.toList.isEmpty = true := by
 rw [ByteArray.toList_eq]
 have := len_data s
 cases hl : s.data.toList with
 | nil => rfl
 | cons _ _ => rw [hl] at this; simp at this; omega
theorem nil_zero (s : ByteArray) (h : ¬ 0 < s.size) : s.data.toList = [] := by
 have := len_data s
 cases hl : s.data.toList with
 | nil => rfl
 | cons _ _ => rw [hl] at this; simp at this; omega
theorem takeWhile_le {p : UInt8 → Bool} (l : List UInt8) : (l.takeWhile p).length ≤ l.length := List.IsPrefix.length_le (List.takeWhile_prefix p)
theorem drop_len (s : ByteArray) (k : Nat) : (s.data.toList.drop k).length = s.size - k := by rw [List.length_drop, len_data]
set_option maxHeartbeats 1000000 in
theorem named_calls (s : ByteArray) (w : World) (hs : s.size ≤ 140737488355328) : Calls Tryz.prog 142 #[.string s] w fun e w' => e = .returned (.int .i64 (named s.data.toList)) ∧ w = w' := by
 by_cases h0 : 0 < s.size
 ·have hn := named_cons s h0
  have he := isEmpty_pos s h0
  cases hl : letterB s[0].toNat with
  | false =>
   rw [hl] at hn
   have HN := Lib.hid hn; clear hn
   go_enter Tryz.func142, Tryz.ntmps142
   go_wp2_with (go_at_call 159; refine (letter_calls _ _).mono ?_; rintro e w' ⟨rfl, rfl⟩)
   go_ret
   exact ⟨ret_int (by rw [HN.out]; simp), rfl⟩
  | true =>
   rw [hl] at hn
   have HN := Lib.hid hn; clear hn
   go_enter Tryz.func142, Tryz.ntmps142
   go_wp2_with (go_at_call 159; refine (letter_calls _ _).mono ?_; rintro e w' ⟨rfl, rfl⟩)
   go_loop [3] (fun n => ∃ k : Nat, 1 ≤ k ∧ k ≤ s.size ∧ n = .int .i64 k ∧ Hid (named s.data.toList = k + ((s.data.toList.drop k).takeWhile alnum).length)) (fun n => s.size - (intOf n).toNat)
   case atStart => exact ⟨1, by omega, by omega, rfl, Lib.hid (by rw [HN.out]; simp)⟩
   case round =>
    obtain ⟨k, hk1, hk2, rfl, HK⟩ := hrel
    clear HN hl
    by_cases hlt : k < s.size
    ·have hst := takeWhile_step (p := alnum) s k hlt
     have ha : alnum s[k] = (letterB s[k].toNat || digitB s[k].toNat) := rfl
     rw [ha] at hst
     have HS := Lib.hid hst; clear hst ha
     cases h1 : letterB s[k].toNat
     ·cases h2 : digitB s[k].toNat
      ·go_wp2_with (first | (go_at_call 159; refine (letter_calls _ _).mono ?_; rintro e w' ⟨rfl, rfl⟩) | (go_at_call 125; refine (digit_calls _ _).mono ?_; rintro e w' ⟨rfl, rfl⟩))
       go_ret
       exact ⟨ret_int (by rw [HK.out, HS.out]; simp [h1, h2]), rfl⟩
      ·go_wp2_with (first | (go_at_call 159; refine (letter_calls _ _).mono ?_; rintro e w' ⟨rfl, rfl⟩) | (go_at_call 125; refine (digit_calls _ _).mono ?_; rintro e w' ⟨rfl, rfl⟩))
       go_round
       case rel => exact ⟨k + 1, by omega, by omega, by go_num, Lib.hid (by rw [HK.out, HS.out]; simp [h1, h2]; omega)⟩
       case measure => simp [intOf]; omega
     ·go_wp2_with (first | (go_at_call 159; refine (letter_calls _ _).mono ?_; rintro e w' ⟨rfl, rfl⟩) | (go_at_call 125; refine (digit_calls _ _).mono ?_; rintro e w' ⟨rfl, rfl⟩))
      go_round
      case rel => exact ⟨k + 1, by omega, by omega, by go_num, Lib.hid (by rw [HK.out, HS.out]; simp [h1]; omega)⟩
      case measure => simp [intOf]; omega
    ·have hst := takeWhile_end (p := alnum) s k hlt
     have HS := Lib.hid hst; clear hst
     go_wp2
     go_ret
     exact ⟨ret_int (by rw [HK.out, HS.out]; simp), rfl⟩
 ·have he := isEmpty_zero s h0
  have hn := nil_zero s h0
  have HN := Lib.hid hn; clear hn
  go_enter Tryz.func142, Tryz.ntmps142
  go_wp2
  go_ret
  exact ⟨ret_int (by rw [HN.out]; rfl), rfl⟩
theorem ret_bool {a b : Bool} (h : a = b) : Ending.returned (.bool a) = .returned (.bool b) := by rw [h]
set_option maxHeartbeats 1000000 in
theorem name_calls (s : ByteArray) (w : World) (hs : s.size ≤ 140737488355328) : Calls Tryz.prog 121 #[.string s] w fun e w' => e = .returned (.bool (nameB s.data.toList)) ∧ w = w' := by
 have hl := len_data s
 by_cases h0 : 0 < s.size
 ·have he := isEmpty_pos s h0
  have hn : nameB s.data.toList = (decide (s.size ≤ 64) && ((named s.data.toList : Int) == (s.size : Int))) := by
   unfold nameB
   rw [hl]
   have : (s.data.toList != []) = true := by cases h : s.data.toList with | nil => rw [h] at hl; simp at hl; omega | cons _ _ => rfl
   rw [this, Bool.true_and]
   congr 1
   rw [Bool.eq_iff_iff]; simp; omega
  have HN := Lib.hid hn; clear hn hl
  by_cases h1 : s.size ≤ 64
  ·go_enter Tryz.func121, Tryz.ntmps121
   go_wp2_with (go_at_call 142; refine (named_calls _ _ (by omega)).mono ?_; rintro e w' ⟨rfl, rfl⟩)
   go_ret
   exact ⟨ret_bool (by rw [HN.out]; simp [h1]), rfl⟩
  ·go_enter Tryz.func121, Tryz.ntmps121
   go_wp2_with (go_at_call 142; refine (named_calls _ _ (by omega)).mono ?_; rintro e w' ⟨rfl, rfl⟩)
   go_ret
   exact ⟨ret_bool (by rw [HN.out]; simp [h1]), rfl⟩
 ·have he := isEmpty_zero s h0
  have hn := nil_zero s h0
  have HN := Lib.hid hn; clear hn hl
  go_enter Tryz.func121, Tryz.ntmps121
  go_wp2
  go_ret
  exact ⟨ret_bool (by rw [HN.out]; rfl), rfl⟩
def closedI (q : UInt8) (i : Nat) (l : Bytes) : Int := match closed q l with | none => -1 | some k => i + k
theorem closed_cons (q c : UInt8) (l : Bytes) : closed q (c :: l) = if c == q then some 0 else if c == 92 && q == 34 then (match l with | [] => none | _ :: r' => (closed q r').map (· + 2)) else (closed q l).map (· + 1) := by
 rw [closed.eq_def]
 rfl
theorem closedI_hit (q : UInt8) (i : Nat) (c : UInt8) (l : Bytes) (h : (c == q) = true) : closedI q i (c :: l) = i := by simp [closedI, closed_cons, h]
theorem closedI_skip (q : UInt8) (i : Nat) (c : UInt8) (l : Bytes) (h : (c == q) = false) (h' : (c == 92 && q == 34) = true) : closedI q i (c :: l) = closedI q (i + 2) (l.drop 1) := by
 simp only [closedI, closed_cons, h, h', if_true, Bool.false_eq_true, if_false]
 cases l with
 | nil => rfl
 | cons d l => simp only [List.drop_succ_cons, List.drop_zero]; cases closed q l <;> simp; omega
theorem closedI_step (q : UInt8) (i : Nat) (c : UInt8) (l : Bytes) (h : (c == q) = false) (h' : (c == 92 && q == 34) = false) : closedI q i (c :: l) = closedI q (i + 1) l := by
 simp only [closedI, closed_cons, h, h', Bool.false_eq_true, if_false]
 cases closed q l <;> simp; omega
theorem byte_eq (c d : UInt8) : ((c.toNat : Int) == (d.toNat : Int)) = (c == d) := by
 rw [Bool.eq_iff_iff]; simp [← UInt8.toNat_inj]; omega
theorem byte_eqn (c : UInt8) (n : Nat) (h : n < 256) : ((c.toNat : Int) == (n : Int)) = (c == n.toUInt8) := by
 rw [Bool.eq_iff_iff]; simp [← UInt8.toNat_inj, Nat.mod_eq_of_lt h]; omega
set_option maxHeartbeats 1000000 in
theorem closed_calls (s : ByteArray) (i : Nat) (w : World) (hi : i < s.size) (hs : s.size ≤ 140737488355328) :
  Calls Tryz.prog 164 #[.string s, .int .i64 i] w fun e w' => e = .returned (.int .i64 (closedI s[i] (i + 1) (s.data.toList.drop (i + 1)))) ∧ w = w' := by
 generalize hR : closedI s[i] (i + 1) (s.data.toList.drop (i + 1)) = R
 have HR := Lib.hid hR; clear hR
 go_enter Tryz.func164, Tryz.ntmps164
 go_wp2
 generalize s[i] = q at *
 go_loop [1] (fun n => ∃ k : Nat, k ≤ s.size + 1 ∧ n = .int .i64 k ∧ Hid (closedI q k (s.data.toList.drop k) = R)) (fun n => s.size + 1 - (intOf n).toNat)
 case atStart => exact ⟨i + 1, by omega, by go_num, HR⟩
 case round =>
  obtain ⟨k, hk2, rfl, HK⟩ := hrel
  clear HR
  by_cases hlt : k < s.size
  ·have hd := byte_drop s k hlt
   have HD := Lib.hid hd; clear hd
   have hb := byte_eq s[k] q
   have hb2 : ((s[k].toNat : Int) == 92) = (s[k] == 92) := byte_eqn s[k] 92 (by decide)
   have hb3 : ((q.toNat : Int) == 34) = (q == 34) := byte_eqn q 34 (by decide)
   cases h1 : s[k] == q
   ·rw [h1] at hb
    cases h2 : s[k] == 92
    ·rw [h2] at hb2
     go_wp2
     go_round
     case rel => exact ⟨k + 1, by omega, by go_num, Lib.hid (by rw [← HK.out, HD.out]; exact (closedI_step _ _ _ _ h1 (by rw [h2]; rfl)).symm)⟩
     case measure => simp [intOf]; omega
    ·rw [h2] at hb2
     cases h3 : q == 34
     ·rw [h3] at hb3
      go_wp2
      go_round
      case rel => exact ⟨k + 1, by omega, by go_num, Lib.hid (by rw [← HK.out, HD.out]; exact (closedI_step _ _ _ _ h1 (by rw [h2, h3]; rfl)).symm)⟩
      case measure => simp [intOf]; omega
     ·rw [h3] at hb3
      go_wp2
      go_round
      case rel => exact ⟨k + 2, by omega, by go_num, Lib.hid (by rw [← HK.out, HD.out, closedI_skip _ _ _ _ h1 (by rw [h2, h3]; rfl), List.drop_drop])⟩
      case measure => simp [intOf]; omega
   ·rw [h1] at hb
    go_wp2
    go_ret
    exact ⟨ret_int (by rw [← HK.out, HD.out, closedI_hit _ _ _ _ h1]), rfl⟩
  ·have hd := drop_end s k hlt
   have HD := Lib.hid hd; clear hd
   go_wp2
   go_ret
   exact ⟨ret_int (by rw [← HK.out, HD.out]; rfl), rfl⟩
def insideI (n deep i : Nat) (l : Bytes) : Int := match insideF n deep l with | none => -1 | some k => i + k
theorem map_place (o : Option Nat) (i k : Nat) : (match o.map (· + k) with | none => (-1 : Int) | some j => i + j) = match o with | none => -1 | some j => ((i + k : Nat) : Int) + j := by
 cases o with
 | none => rfl
 | some v => show ((i : Int) + ((v + k : Nat) : Int)) = ((i + k : Nat) : Int) + v; omega
theorem insideI_bs (n deep i : Nat) (c : UInt8) (l : Bytes) (h : (c == 92) = true) : insideI (n + 1) deep i (c :: l) = insideI n deep (i + 2) (l.drop 1) := by
 simp only [insideI, insideF, h, if_true, map_place]
theorem insideI_q (n deep i : Nat) (c : UInt8) (l : Bytes) (h : (c == 92) = false) (h' : (c == 39 || c == 34) = true) :
  insideI (n + 1) deep i (c :: l) = match closed c l with | none => -1 | some k => insideI n deep (i + (k + 2)) (l.drop (k + 1)) := by
 simp only [insideI, insideF, h, h', if_true, Bool.false_eq_true, if_false]
 cases closed c l with
 | none => rfl
 | some k => simp only [map_place]
theorem insideI_open (n deep i : Nat) (c : UInt8) (l : Bytes) (h : (c == 92) = false) (h' : (c == 39 || c == 34) = false) (h1 : (c == 40) = true) : insideI (n + 1) deep i (c :: l) = insideI n (deep + 1) (i + 1) l := by
 simp only [insideI, insideF, h, h', h1, if_true, Bool.false_eq_true, if_false, map_place]
theorem insideI_close (n deep i : Nat) (c : UInt8) (l : Bytes) (h : (c == 92) = false) (h' : (c == 39 || c == 34) = false) (h1 : (c == 40) = false) (h2 : (c == 41) = true) (h3 : 0 < deep) : insideI (n + 1) deep i (c :: l) = insideI n (deep - 1) (i + 1) l := by
 have h3' : (deep == 0) = false := by simp; omega
 simp only [insideI, insideF, h, h', h1, h2, h3', if_true, Bool.false_eq_true, if_false, map_place]
theorem insideI_found (n i : Nat) (c : UInt8) (l : Bytes) (h : (c == 92) = false) (h' : (c == 39 || c == 34) = false) (h1 : (c == 40) = false) (h2 : (c == 41) = true) : insideI (n + 1) 0 i (c :: l) = i := by
 simp [insideI, insideF, h, h', h1, h2]
theorem insideI_step (n deep i : Nat) (c : UInt8) (l : Bytes) (h : (c == 92) = false) (h' : (c == 39 || c == 34) = false) (h1 : (c == 40) = false) (h2 : (c == 41) = false) : insideI (n + 1) deep i (c :: l) = insideI n deep (i + 1) l := by
 simp only [insideI, insideF, h, h', h1, h2, Bool.false_eq_true, if_false, map_place]
theorem closed_lt (q : UInt8) : ∀ (l : Bytes) (k : Nat), closed q l = some k → k < l.length
 | [], k, h => by simp [closed] at h
 | [c], k, h => by
  rw [closed_cons] at h
  split at h
  ·simp at h; simp; omega
  ·split at h
   ·simp at h
   ·simp [closed] at h
 | c :: d :: l, k, h => by
  rw [closed_cons] at h
  split at h
  ·simp at h; simp; omega
  ·split at h
   ·simp only [Option.map_eq_some_iff] at h
    obtain ⟨j, hj, rfl⟩ := h
    have := closed_lt q l j hj
    simp; omega
   ·simp only [Option.map_eq_some_iff] at h
    obtain ⟨j, hj, rfl⟩ := h
    have := closed_lt q (d :: l) j hj
    simp at this ⊢; omega
set_option maxHeartbeats 2000000 in
theorem inside_calls (s : ByteArray) (w : World) (hs : s.size ≤ 140737488355328) :
  Calls Tryz.prog 146 #[.string s] w fun e w' => e = .returned (.int .i64 (insideI (s.size + 1) 0 0 s.data.toList)) ∧ w = w' := by
 generalize hR : insideI (s.size + 1) 0 0 s.data.toList = R
 have HR := Lib.hid hR; clear hR
 go_enter Tryz.func146, Tryz.ntmps146
 go_wp2
 go_loop [3, 4] (fun d i => ∃ n k dp : Nat, k ≤ s.size + 1 ∧ dp ≤ k ∧ s.size - k < n ∧ i = .int .i64 k ∧ d = .int .i64 dp ∧ Hid (insideI n dp k (s.data.toList.drop k) = R)) (fun _ i => s.size + 1 - (intOf i).toNat)
 case atStart => exact ⟨s.size + 1, 0, 0, by omega, by omega, by omega, by go_num, by go_num, HR⟩
 case round =>
  obtain ⟨n, k, dp, hk, hdp, hn, rfl, rfl, HK⟩ := hrel
  clear HR
  by_cases hlt : k < s.size
  ·obtain ⟨n, rfl⟩ : ∃ m, n = m + 1 := ⟨n - 1, by omega⟩
   have hd := byte_drop s k hlt
   have HD := Lib.hid hd; clear hd
   have hb1 : ((s[k].toNat : Int) == 92) = (s[k] == 92) := byte_eqn s[k] 92 (by decide)
   have hb2 : ((s[k].toNat : Int) == 39) = (s[k] == 39) := byte_eqn s[k] 39 (by decide)
   have hb3 : ((s[k].toNat : Int) == 34) = (s[k] == 34) := byte_eqn s[k] 34 (by decide)
   have hb4 : ((s[k].toNat : Int) == 40) = (s[k] == 40) := byte_eqn s[k] 40 (by decide)
   have hb5 : ((s[k].toNat : Int) == 41) = (s[k] == 41) := byte_eqn s[k] 41 (by decide)
   cases h1 : s[k] == 92
   case true =>
    rw [h1] at hb1
    go_wp2
    go_round
    case rel => exact ⟨n, k + 2, dp, by omega, by omega, by omega, by go_num, rfl, Lib.hid (by rw [← HK.out, HD.out, insideI_bs _ _ _ _ _ h1, List.drop_drop])⟩
    case measure => simp [intOf]; omega
   case false =>
    rw [h1] at hb1
    cases h2 : (s[k] == 39 || s[k] == 34)
    case true =>
     have hc : closedI s[k] (k + 1) (s.data.toList.drop (k + 1)) = match closed s[k] (s.data.toList.drop (k + 1)) with | none => -1 | some j => ((k + 1 : Nat) : Int) + j := rfl
     have hi := insideI_q n dp k s[k] (s.data.toList.drop (k + 1)) h1 h2
     have HI := Lib.hid hi; clear hi
     cases hcl : closed s[k] (s.data.toList.drop (k + 1)) with
     | none =>
      rw [hcl] at hc
      have hc' : closedI s[k] (k + 1) (s.data.toList.drop (k + 1)) = -1 := hc
      have HCL := Lib.hid hcl; clear hcl hc
      cases h39 : s[k] == 39
      all_goals
       rw [h39] at hb2 h2
       try (have h34 : (s[k] == 34) = true := by simpa using h2)
       try rw [h34] at hb3
       clear h2
       go_wp2_with (go_at_call 164; refine (closed_calls _ _ _ hlt (by omega)).mono ?_; rintro e w' ⟨rfl, rfl⟩; rw [hc'])
       go_ret
       exact ⟨ret_int (by rw [← HK.out, HD.out, HI.out, HCL.out]), rfl⟩
     | some j =>
      rw [hcl] at hc
      have hj := closed_lt _ _ _ hcl
      rw [drop_len] at hj
      have hc' : closedI s[k] (k + 1) (s.data.toList.drop (k + 1)) = ((k + 1 + j : Nat) : Int) := by rw [hc]; show ((k + 1 : Nat) : Int) + j = _; omega
      have HCL := Lib.hid hcl; clear hcl hc
      cases h39 : s[k] == 39
      all_goals
       rw [h39] at hb2 h2
       try (have h34 : (s[k] == 34) = true := by simpa using h2)
       try rw [h34] at hb3
       clear h2
       go_wp2_with (go_at_call 164; refine (closed_calls _ _ _ hlt (by omega)).mono ?_; rintro e w' ⟨rfl, rfl⟩; rw [hc'])
       go_round
       case rel => exact ⟨n, k + (j + 2), dp, by omega, by omega, by omega, by go_num, rfl, Lib.hid (by rw [← HK.out, HD.out, HI.out, HCL.out]; show _ = insideI n dp (k + (j + 2)) (List.drop (j + 1) (List.drop (k + 1) s.data.toList)); rw [List.drop_drop]; congr 2; omega)⟩
       case measure => simp [intOf]; omega
    case false =>
     have h39 : (s[k] == 39) = false := by revert h2; cases (s[k] == 39) <;> simp
     have h34 : (s[k] == 34) = false := by revert h2; cases (s[k] == 34) <;> simp
     rw [h39] at hb2
     rw [h34] at hb3
     cases h4 : s[k] == 40
     case true =>
      rw [h4] at hb4
      go_wp2
      go_round
      case rel => exact ⟨n, k + 1, dp + 1, by omega, by omega, by omega, by go_num, by go_num, Lib.hid (by rw [← HK.out, HD.out, insideI_open _ _ _ _ _ h1 h2 h4])⟩
      case measure => simp [intOf]; omega
     case false =>
      rw [h4] at hb4
      cases h5 : s[k] == 41
      case true =>
       rw [h5] at hb5
       by_cases hp : 0 < dp
       ·go_wp2
        go_round
        case rel => exact ⟨n, k + 1, dp - 1, by omega, by omega, by omega, by go_num, by go_num, Lib.hid (by rw [← HK.out, HD.out, insideI_close _ _ _ _ _ h1 h2 h4 h5 hp])⟩
        case measure => simp [intOf]; omega
       ·obtain rfl : dp = 0 := by omega
        go_wp2
        go_ret
        exact ⟨ret_int (by rw [← HK.out, HD.out, insideI_found _ _ _ _ h1 h2 h4 h5]), rfl⟩
      case false =>
       rw [h5] at hb5
       go_wp2
       go_round
       case rel => exact ⟨n, k + 1, dp, by omega, by omega, by omega, by go_num, rfl, Lib.hid (by rw [← HK.out, HD.out, insideI_step _ _ _ _ _ h1 h2 h4 h5])⟩
       case measure => simp [intOf]; omega
  ·have hd := drop_end s k hlt
   have HD := Lib.hid hd; clear hd
   obtain ⟨n, rfl⟩ : ∃ m, n = m + 1 := ⟨n - 1, by omega⟩
   go_wp2
   go_ret
   exact ⟨ret_int (by rw [← HK.out, HD.out]; rfl), rfl⟩
theorem parameter_cons (s : ByteArray) (h : 0 < s.size) : parameter s.data.toList = if named s.data.toList > 0 then named s.data.toList else if special s[0] then 1 else (s.data.toList.takeWhile digit).length := by
 have e := byte_drop s 0 h
 simp only [List.drop_zero, Nat.zero_add] at e
 generalize s.data.toList = l at *
 rw [e]
 rfl
set_option maxHeartbeats 1000000 in
theorem parameter_calls (s : ByteArray) (w : World) (hs : s.size ≤ 140737488355328) : Calls Tryz.prog 161 #[.string s] w fun e w' => e = .returned (.int .i64 (parameter s.data.toList)) ∧ w = w' := by
 by_cases h0 : 0 < s.size
 ·have hp := parameter_cons s h0
  have HP := Lib.hid hp; clear hp
  have he := isEmpty_pos s h0
  by_cases h1 : 0 < named s.data.toList
  ·go_enter Tryz.func161, Tryz.ntmps161
   go_wp2_with (go_at_call 142; refine (named_calls _ _ (by omega)).mono ?_; rintro e w' ⟨rfl, rfl⟩)
   go_ret
   exact ⟨ret_int (by rw [HP.out, if_pos h1]), rfl⟩
  ·have h1' : named s.data.toList = 0 := by omega
   cases h2 : special s[0]
   ·go_enter Tryz.func161, Tryz.ntmps161
    go_wp2_with (first | (go_at_call 142; refine (named_calls _ _ (by omega)).mono ?_; rintro e w' ⟨rfl, rfl⟩) | (go_at_call 143; refine (special_calls _ _).mono ?_; rintro e w' ⟨rfl, rfl⟩))
    go_loop [3] (fun n => ∃ k : Nat, k ≤ s.size ∧ n = .int .i64 k ∧ Hid ((s.data.toList.takeWhile digit).length = k + ((s.data.toList.drop k).takeWhile digit).length)) (fun n => s.size - (intOf n).toNat)
    case atStart => exact ⟨0, by omega, by simp, Lib.hid (by simp)⟩
    case round =>
     obtain ⟨k, hk2, rfl, HK⟩ := hrel
     by_cases hlt : k < s.size
     ·have hst := takeWhile_step (p := digit) s k hlt
      have hd : digit s[k] = digitB s[k].toNat := rfl
      rw [hd] at hst
      have HS := Lib.hid hst; clear hst hd
      cases h3 : digitB s[k].toNat
      ·go_wp2_with (go_at_call 125; refine (digit_calls _ _).mono ?_; rintro e w' ⟨rfl, rfl⟩)
       go_ret
       exact ⟨ret_int (by rw [HP.out, if_neg h1, h2, if_neg (by simp), HK.out, HS.out]; simp [h3]), rfl⟩
      ·go_wp2_with (go_at_call 125; refine (digit_calls _ _).mono ?_; rintro e w' ⟨rfl, rfl⟩)
       go_round
       case rel => exact ⟨k + 1, by omega, by go_num, Lib.hid (by rw [HK.out, HS.out]; simp [h3]; omega)⟩
       case measure => simp [intOf]; omega
     ·have hst := takeWhile_end (p := digit) s k hlt
      have HS := Lib.hid hst; clear hst
      go_wp2
      go_ret
      exact ⟨ret_int (by rw [HP.out, if_neg h1, h2, if_neg (by simp), HK.out, HS.out]; simp), rfl⟩
   ·go_enter Tryz.func161, Tryz.ntmps161
    go_wp2_with (first | (go_at_call 142; refine (named_calls _ _ (by omega)).mono ?_; rintro e w' ⟨rfl, rfl⟩) | (go_at_call 143; refine (special_calls _ _).mono ?_; rintro e w' ⟨rfl, rfl⟩))
    go_ret
    exact ⟨ret_int (by rw [HP.out, if_neg h1, h2]; rfl), rfl⟩
 ·have he := isEmpty_zero s h0
  have hn := nil_zero s h0
  have hnm : named s.data.toList = 0 := by rw [hn]; rfl
  have HN := Lib.hid hn; clear hn
  go_enter Tryz.func161, Tryz.ntmps161
  go_wp2_with (go_at_call 142; refine (named_calls _ _ (by omega)).mono ?_; rintro e w' ⟨rfl, rfl⟩)
  go_ret
  exact ⟨ret_int (by rw [HN.out]; rfl), rfl⟩
theorem opL_drop (s : Bytes) (k : Nat) (hk : k < 12) : opL (ops.drop k) s = if (ops.getD k []).isPrefixOf s then ops.getD k [] else opL (ops.drop (k + 1)) s := by
 have h : ops.drop k = ops.getD k [] :: ops.drop (k + 1) := by
  rw [List.drop_eq_getElem_cons (show k < ops.length from hk)]
  congr 1
  simp [List.getD_eq_getElem?_getD, List.getElem?_eq_getElem (show k < ops.length from hk)]
 rw [h, opL]
set_option maxRecDepth 100000 in
set_option maxHeartbeats 1000000 in
theorem op_calls (s : ByteArray) (w : World) : Calls Tryz.prog 162 #[.string s] w fun e w' => e = .returned (.string (bstr (opM s.data.toList))) ∧ Chg (fun _ => False) w w' := by
 generalize hR : opM s.data.toList = R
 have HR := Lib.hid hR; clear hR
 go_enter Tryz.func162, Tryz.ntmps162
 go_wp2
 have hcells : ∀ k, k < 12 → (w.alloc (.cells #[.string ⟨#[58, 45]⟩, .string ⟨#[58, 61]⟩, .string ⟨#[58, 63]⟩, .string ⟨#[58, 43]⟩, .string ⟨#[37, 37]⟩, .string ⟨#[35, 35]⟩, .string ⟨#[45]⟩, .string ⟨#[61]⟩, .string ⟨#[63]⟩, .string ⟨#[43]⟩, .string ⟨#[37]⟩, .string ⟨#[35]⟩] 9)).cell? ⟨w.heap.size, k, none⟩ = some (.string (bstr (ops.getD k []))) := by
  intro k hk
  rw [cell_of_row _ _ _ _ _ _ (heap_alloc_new w _)]
  have : k = 0 ∨ k = 1 ∨ k = 2 ∨ k = 3 ∨ k = 4 ∨ k = 5 ∨ k = 6 ∨ k = 7 ∨ k = 8 ∨ k = 9 ∨ k = 10 ∨ k = 11 := by omega
  rcases this with rfl | rfl | rfl | rfl | rfl | rfl | rfl | rfl | rfl | rfl | rfl | rfl <;> rfl
 have hC : Chg (fun _ => False) w (w.alloc (.cells #[.string ⟨#[58, 45]⟩, .string ⟨#[58, 61]⟩, .string ⟨#[58, 63]⟩, .string ⟨#[58, 43]⟩, .string ⟨#[37, 37]⟩, .string ⟨#[35, 35]⟩, .string ⟨#[45]⟩, .string ⟨#[61]⟩, .string ⟨#[63]⟩, .string ⟨#[43]⟩, .string ⟨#[37]⟩, .string ⟨#[35]⟩] 9)) := (Chg.refl _ _).alloc _
 generalize w.alloc _ = W at *
 have HC := Lib.hid hC; clear hC
 generalize w.heap.size = B at *
 go_loop [7] (fun n => ∃ k : Nat, k ≤ 12 ∧ n = .int .i64 k ∧ Hid (opL (ops.drop k) s.data.toList = R)) (fun n => 12 - (intOf n).toNat)
 case atStart => exact ⟨0, by omega, by go_num, HR⟩
 case round =>
  obtain ⟨k, hk, rfl, HK⟩ := hrel
  clear HR
  by_cases hlt : k < 12
  ·have hc := hcells k hlt
   clear hcells
   have hd := opL_drop s.data.toList k hlt
   have HD := Lib.hid hd; clear hd
   generalize ops.getD k [] = o at *
   cases h1 : o.isPrefixOf s.data.toList
   all_goals
    have hp : Lib.hasPrefix s.data.toList (bstr o).data.toList = o.isPrefixOf s.data.toList := by rw [bstr_toList]; rfl
    rw [h1] at hp
    go_wp2_with (go_at_call 70; refine (Tryz.strings_HasPrefix _ _ _).mono ?_; rintro e w' ⟨rfl, rfl⟩; rw [hp])
   ·go_round
    case rel => exact ⟨k + 1, by omega, by go_num, Lib.hid (by rw [← HK.out, HD.out, h1]; simp)⟩
    case measure => simp [intOf]; omega
   ·go_ret
    exact ⟨by rw [← HK.out, HD.out, h1]; rfl, HC.out⟩
  ·obtain rfl : k = 12 := by omega
   clear hcells
   go_wp2
   go_ret
   exact ⟨by rw [← HK.out]; rfl, HC.out⟩
theorem ScanAt.cells {w : World} {g : Nat} {s : ByteArray} {a d : Int} (h : ScanAt w g s a d) :
  w.cell? ⟨g, 0, none⟩ = some (.string s) ∧ w.cell? ⟨g, 1, none⟩ = some (.int .i64 a) ∧ w.cell? ⟨g, 2, none⟩ = some (.int .i64 d) ∧ w.frozen? ⟨g, 1, none⟩ = false ∧ w.frozen? ⟨g, 2, none⟩ = false ∧ g < w.heap.size := by
 unfold ScanAt at h
 refine ⟨?_, ?_, ?_, ?_, ?_, (Array.getElem?_eq_some_iff.1 h).1⟩
 ·rw [cell_of_row _ _ _ _ _ _ h]; rfl
 ·rw [cell_of_row _ _ _ _ _ _ h]; rfl
 ·rw [cell_of_row _ _ _ _ _ _ h]; rfl
 ·simp [World.frozen?, h]
 ·simp [World.frozen?, h]
theorem ScanAt.at' {w : World} {g : Nat} {s : ByteArray} {a d : Int} (h : ScanAt w g s a d) (a' : Int) : ScanAt (w.setCell ⟨g, 1, none⟩ (.int .i64 a')) g s a' d := by
 unfold ScanAt at *
 simp [World.setCell, Array.getElem?_modify, h]
theorem ScanAt.deep' {w : World} {g : Nat} {s : ByteArray} {a d : Int} (h : ScanAt w g s a d) (d' : Int) : ScanAt (w.setCell ⟨g, 2, none⟩ (.int .i64 d')) g s a d' := by
 unfold ScanAt at *
 simp [World.setCell, Array.getElem?_modify, h]
theorem ScanAt.chg {B : Nat → Prop} {w w' : World} {g : Nat} {s : ByteArray} {a d : Int} (h : ScanAt w g s a d) (hc : Chg B w w') (hn : ¬ B g) : ScanAt w' g s a d := by
 have hl := h.cells.2.2.2.2.2
 unfold ScanAt at *
 rw [hc.block g hl hn]; exact h
def faultV (k : Nat) (c : Int) : List PanicEntry := [{ v := .iface 134 (.agg #[.int .i64 k, .int .i64 c]), recovered := false }]
def ScanPost {α : Type} (w : World) (g : Nat) (s : ByteArray) (deep : Int) (R : Rs α) (B : Nat → Prop) (val : α → Value → World → Prop) (e : Ending) (w' : World) : Prop :=
 match R with
 | .ok a rest => ∃ v k, e = .returned v ∧ k ≤ s.size ∧ rest = s.data.toList.drop k ∧ val a v w' ∧ ScanAt w' g s (k : Nat) deep ∧ Chg (fun j => j = g ∨ B j) w w'
 | .err left c => ∃ k : Nat, k ≤ s.size ∧ left = s.size - k ∧ e = .panicked (faultV k c) ∧ Chg (fun j => j = g ∨ B j) w w'
def isAt (l : Bytes) (n : Nat) (c : UInt8) : Bool := match l.drop n with | d :: _ => d == c | [] => false
set_option maxRecDepth 100000 in
set_option maxHeartbeats 1000000 in
theorem is_calls (g : Nat) (s : ByteArray) (a : Nat) (d : Int) (n : Nat) (c : UInt8) (w : World) (h : ScanAt w g s a d) (ha : a ≤ s.size) (hs : s.size ≤ 8192) (hn : n ≤ 1) :
  Calls Tryz.prog 160 #[.pointer (some ⟨g, 0, none⟩), .int .i64 n, .int .u8 c.toNat] w fun e w' => e = .returned (.bool (isAt (s.data.toList.drop a) n c)) ∧ ∃ m, w.drewN m = w' := by
 obtain ⟨h0, h1, h2, _, _, _⟩ := h.cells
 by_cases hlt : a + n < s.size
 ·have hd := byte_drop s (a + n) hlt
  have hm : isAt (s.data.toList.drop a) n c = (s[a + n] == c) := by rw [isAt, List.drop_drop, hd]
  have HM := Lib.hid hm; clear hm hd
  have hb := byte_eq s[a + n] c
  go_enter Tryz.func160, Tryz.ntmps160
  go_wp2
  have e3 : (0 : Int) ≤ (a : Int) + (n : Int) := by omega
  have e4 : (a : Int) + (n : Int) < (s.size : Int) := by omega
  have e5 : a + n < s.size := hlt
  go_quiet (fail)
  go_wp2
  go_ret
  exact ⟨ret_bool HM.out.symm, _, rfl⟩
 ·have hm : isAt (s.data.toList.drop a) n c = false := by rw [isAt, List.drop_drop, drop_end s _ hlt]
  have HM := Lib.hid hm; clear hm
  have e4 : decide ((a : Int) + (n : Int) < (s.size : Int)) = false := by simp; omega
  go_enter Tryz.func160, Tryz.ntmps160
  go_wp2
  go_quiet (fail)
  go_wp2
  go_ret
  exact ⟨ret_bool HM.out.symm, _, rfl⟩
theorem lit_rep (w : World) (s : Bytes) (q : Bool) : Rep w (fun _ => False) (Part.d (lit s q)) [.int .i64 1, .bool q, .string (bstr s), .string ⟨#[]⟩, .slice none 0 0] :=
 part_rep.2 ⟨_, rfl, none, 0, [], rfl, Nat.le_refl _, by simp [maxLen], by simp [Rd], rfl⟩
theorem extract_bstr (s : ByteArray) (a b : Nat) : s.extract a b = bstr ((s.data.toList.drop a).take (b - a)) := by
 rw [← Lib.extract_data, bstr_of]
theorem extract_one (s : ByteArray) (a : Nat) (h : a < s.size) : s.extract a (a + 1) = bstr [s[a]] := by
 rw [extract_bstr, byte_drop s a h, show a + 1 - a = 1 by omega]
 rfl
set_option maxRecDepth 100000 in
set_option maxHeartbeats 2000000 in
theorem escape_calls (g : Nat) (s : ByteArray) (a : Nat) (d : Int) (S : Nat → Prop) (v : Value) (l : List Part) (w : World) (h : ScanAt w g s a d) (ha : a < s.size) (hs : s.size ≤ 8192)
  (HO : Own w S 103 5 v (Part.ds l)) (hg : ¬ S g) (hw : Part.wts l ≤ 900000) :
  Calls Tryz.prog 108 #[.pointer (some ⟨g, 0, none⟩), v] w
   (ScanPost w g s d (escape l (s.data.toList.drop a)) (fun j => some j = v.ownBlock) fun l' v' w' => Own w' (fun k => S k ∨ w.heap.size ≤ k) 103 5 v' (Part.ds l') ∧ AtOr v v' w) := by
 obtain ⟨h0, h1, h2, f1, _, hlt⟩ := h.cells
 have hd := byte_drop s a ha
 by_cases hl : a + 1 < s.size
 ·have hd2 := byte_drop s (a + 1) hl
  have hE : escape l (s.data.toList.drop a) = .ok (if s[a + 1] == 10 then l else add l (lit [s[a + 1]] true)) (s.data.toList.drop (a + 2)) := by rw [hd, hd2]; rfl
  have hx := extract_one s (a + 1) hl
  have hx10 : ((bstr [s[a + 1]]).toList == [10]) = (s[a + 1] == 10) := by rw [ByteArray.toList_eq, bstr_toList]; simp
  clear hd hd2
  generalize s[a + 1] = c at *
  have e1 : ((a : Int) + 1 == (s.size : Int)) = false := by simp; omega
  have e2 : (0 : Int) ≤ (a : Int) + 1 := by omega
  have e3 : (a : Int) + 1 ≤ (a : Int) + 2 := by omega
  have e4 : (a : Int) + 2 ≤ (s.size : Int) := by omega
  cases h10 : c == 10
  case true =>
   rw [h10] at hx10
   have hE' : escape l (s.data.toList.drop a) = .ok l (s.data.toList.drop (a + 2)) := by rw [hE, h10]; rfl
   rw [hE']
   clear hE hE'
   go_enter Tryz.func108, Tryz.ntmps108
   go_wp2
   go_quiet (fail)
   go_wp2
   go_quiet (fail)
   go_wp2
   go_ret
   exact ⟨v, a + 2, rfl, by omega, rfl, ⟨(HO.stay (((Chg.refl (· = g) _).drewN _).setCell (fun _ => rfl) _) (by rintro k hk rfl; exact hg hk)).mono (fun _ h _ => .inl h), .inl rfl⟩, h.at' _, ((Chg.refl _ _).drewN _).setCell (fun _ => .inl rfl) _⟩
  case false =>
   rw [h10] at hx10
   have hE' : escape l (s.data.toList.drop a) = .ok (add l (lit [c] true)) (s.data.toList.drop (a + 2)) := by rw [hE, h10]; rfl
   rw [hE']
   clear hE hE'
   go_enter Tryz.func108, Tryz.ntmps108
   go_wp2
   go_quiet (fail)
   go_wp2
   go_quiet (fail)
   go_wp2_with fail
   refine (lit_calls _ _ _).mono ?_
   rintro e w1 ⟨rfl, hb1⟩
   go_wp2_with fail
   have hc1 := Chg.of_below hb1
   have hC1 : Chg (· = g) w w1 := (((Chg.refl (· = g) _).drewN _).setCell (fun _ => rfl) _).trans hc1 (fun _ h _ => h.elim)
   have hA1 : ScanAt w1 g s ((a + 2 : Nat) : Int) d := (ScanAt.at' (w := w.drewN _) h ((a + 2 : Nat) : Int)).chg hc1 (fun e => e)
   refine (add_calls w1 S (fun _ => False) v l (lit [c] true) _ (HO.stay hC1 (by rintro k hk rfl; exact hg hk)) (lit_rep _ _ _) (fun _ h _ => h.elim) (by simp [lit, Part.wt, Part.wts]; omega)).mono ?_
   rintro e w2 ⟨v2, rfl, hO2, hc2, hat⟩
   have hz := hC1.size
   go_wp2
   go_ret
   exact ⟨v2, a + 2, rfl, by omega, rfl, ⟨hO2.mono (fun k h _ => h.imp id (fun h => by omega)), hat.imp id (fun ⟨b, h1, h2⟩ => ⟨b, h1, by omega⟩)⟩, hA1.chg hc2 (fun e => hg (HO.block e.symm)), (hC1.mono (fun k e _ => Or.inl e)).trans hc2 (fun k e _ => .inr e)⟩
 ·have hE : escape l (s.data.toList.drop a) = .err 1 60 := by
   rw [hd, drop_end s (a + 1) hl]; rfl
  rw [hE]
  have HE := Lib.hid hE; clear hE hd
  have e1 : ((a : Int) + 1 == (s.size : Int)) = true := by simp; omega
  go_enter Tryz.func108, Tryz.ntmps108
  go_wp2
  go_quiet (fail)
  go_wp2_with (go_at_call 110; refine (fail_calls _ _ _ _).mono ?_; rintro e w1 ⟨rfl, rfl⟩)
  exact ⟨rfl, a, by omega, by omega, rfl, (Chg.refl _ _).drewN _⟩
theorem take_snoc (s : ByteArray) (b k : Nat) (hb : b ≤ k) (h : k < s.size) : (s.data.toList.drop b).take (k - b) ++ [s[k]] = (s.data.toList.drop b).take (k + 1 - b) := by
 have e : k + 1 - b = (k - b) + 1 := by omega
 have hl : k - b < (s.data.toList.drop b).length := by rw [drop_len]; omega
 rw [e, List.take_add_one, List.getElem?_drop, show b + (k - b) = k by omega]
 congr 1
 rw [List.getElem?_eq_getElem (by rw [len_data]; exact h)]
 rfl
theorem arith_end (F dp : Nat) (acc : Bytes) : arithF F dp acc [] = .err F 60 := by rw [arithF.eq_def]
theorem arith_cons (F dp : Nat) (acc : Bytes) (c : UInt8) (r : Bytes) : arithF F dp acc (c :: r) =
  if arithStop.contains c then .err (r.length + 1) 61
  else if c == 40 then arithF F (dp + 1) (acc ++ [c]) r
  else if c == 41 && dp > 0 then arithF F (dp - 1) (acc ++ [c]) r
  else if c == 41 then (match r with | 41 :: r' => .ok acc r' | _ => .err (r.length + 1) 61)
  else arithF F dp (acc ++ [c]) r := by rw [arithF.eq_def]; rfl
set_option maxRecDepth 100000 in
set_option maxHeartbeats 4000000 in
theorem arith_calls (g : Nat) (s : ByteArray) (a : Nat) (d : Int) (w : World) (h : ScanAt w g s a d) (ha : a + 3 ≤ s.size) (hs : s.size ≤ 8192) :
  Calls Tryz.prog 145 #[.pointer (some ⟨g, 0, none⟩)] w
   (ScanPost w g s d (arithF (s.size - a) 0 [] (s.data.toList.drop (a + 3))) (fun _ => False) fun t v _ => v = .string (bstr t)) := by
 obtain ⟨h0, h1, h2, f1, _, hgl⟩ := h.cells
 generalize hR : arithF (s.size - a) 0 [] (s.data.toList.drop (a + 3)) = R
 have HR := Lib.hid hR; clear hR
 go_enter Tryz.func145, Tryz.ntmps145
 go_wp2
 go_loop [4, 5] (fun dv i => ∃ k dp : Nat, a + 3 ≤ k ∧ k ≤ s.size ∧ dp ≤ k ∧ i = .int .i64 k ∧ dv = .int .i64 dp ∧ Hid (arithF (s.size - a) dp ((s.data.toList.drop (a + 3)).take (k - (a + 3))) (s.data.toList.drop k) = R)) (fun _ i => s.size - (intOf i).toNat)
 case atStart => exact ⟨a + 3, 0, by omega, by omega, by omega, by go_num, by go_num, Lib.hid (by rw [← HR.out]; simp)⟩
 case round =>
  obtain ⟨k, dp, hk, hk2, hdp, rfl, rfl, HK⟩ := hrel
  clear HR
  by_cases hlt : k < s.size
  ·have HD := Lib.hid (byte_drop s k hlt)
   have HT := Lib.hid (take_snoc s (a + 3) k hk hlt)
   have HA := Lib.hid (arith_cons (s.size - a) dp ((s.data.toList.drop (a + 3)).take (k - (a + 3))) s[k] (s.data.toList.drop (k + 1)))
   have hix := indexByte_neg arithStop s[k]
   have hb4 : ((s[k].toNat : Int) == 40) = (s[k] == 40) := byte_eqn s[k] 40 (by decide)
   have hb5 : ((s[k].toNat : Int) == 41) = (s[k] == 41) := byte_eqn s[k] 41 (by decide)
   unfold arithStop at hix
   cases hst : List.contains [39, 34, 92, 96, 10] s[k]
   case true =>
    rw [hst] at hix
    have HST : Hid (arithStop.contains s[k] = true) := Lib.hid (by rw [show arithStop = [39, 34, 92, 96, 10] from rfl, hst])
    clear hst
    go_wp2_with (first | (go_at_call 109; refine (Tryz.strings_IndexByte _ _ _).mono ?_; rintro e w' ⟨rfl, rfl⟩) | (go_at_call 110; refine (fail_calls _ _ _ _).mono ?_; rintro e w1 ⟨rfl, rfl⟩))
    refine ⟨rfl, ?_⟩
    rw [← HK.out, HD.out, HA.out, if_pos HST.out, drop_len]
    exact ⟨k, by omega, by omega, rfl, Chg.refl _ _⟩
   case false =>
    rw [hst] at hix
    have HST : Hid (¬ arithStop.contains s[k] = true) := Lib.hid (by rw [show arithStop = [39, 34, 92, 96, 10] from rfl, hst]; simp)
    clear hst
    cases h4 : s[k] == 40
    case true =>
     rw [h4] at hb4
     go_wp2_with (go_at_call 109; refine (Tryz.strings_IndexByte _ _ _).mono ?_; rintro e w' ⟨rfl, rfl⟩)
     go_round
     case rel => exact ⟨k + 1, dp + 1, by omega, by omega, by omega, by go_num, by go_num, Lib.hid (by rw [← HK.out, HD.out, HA.out, if_neg HST.out, if_pos h4, HT.out])⟩
     case measure => simp [intOf]; omega
    case false =>
     rw [h4] at hb4
     cases h5 : s[k] == 41
     case true =>
      rw [h5] at hb5
      by_cases hp : 0 < dp
      ·go_wp2_with (go_at_call 109; refine (Tryz.strings_IndexByte _ _ _).mono ?_; rintro e w' ⟨rfl, rfl⟩)
       go_round
       case rel => exact ⟨k + 1, dp - 1, by omega, by omega, by omega, by go_num, by go_num, Lib.hid (by rw [← HK.out, HD.out, HA.out, if_neg HST.out, if_neg (by simp [h4]), if_pos (by simp [h5, hp]), HT.out])⟩
       case measure => simp [intOf]; omega
      ·obtain rfl : dp = 0 := by omega
       by_cases hl : k + 1 < s.size
       ·have HD2 := Lib.hid (byte_drop s (k + 1) hl)
        have hb6 : ((s[k + 1].toNat : Int) == 41) = (s[k + 1] == 41) := byte_eqn s[k + 1] 41 (by decide)
        have hb7 : ((s[k + 1].toNat : Int) != 41) = (s[k + 1] != 41) := by rw [bne, bne, hb6]
        have e1 : ((k : Int) + 1 == (s.size : Int)) = false := by simp; omega
        cases h6 : s[k + 1] == 41
        case true =>
         have h7 : (s[k + 1] != 41) = false := by rw [bne, h6]; rfl
         have h6' : s[k + 1] = 41 := by simpa using h6
         have H6 := Lib.hid h6'; clear h6'
         rw [h7] at hb7
         rw [h6] at hb6
         have HX := Lib.hid (extract_bstr s (a + 3) k)
         have e2 : (a : Int) + 3 ≤ (k : Int) := by omega
         have e3 : (k : Int) ≤ (s.size : Int) := by omega
         have e4 : (0 : Int) ≤ (a : Int) + 3 := by omega
         go_wp2_with (go_at_call 109; refine (Tryz.strings_IndexByte _ _ _).mono ?_; rintro e w' ⟨rfl, rfl⟩)
         go_ret
         rw [← HK.out, HD.out, HA.out, if_neg HST.out, if_neg (by simp [h4]), if_neg (by simp), if_pos h5, HD2.out, H6.out]
         exact ⟨_, k + 2, rfl, by omega, rfl, congrArg Value.string HX.out, h.at' _, (Chg.refl _ _).setCell (fun _ => .inl rfl) _⟩
        case false =>
         have h7 : (s[k + 1] != 41) = true := by rw [bne, h6]; rfl
         rw [h7] at hb7
         rw [h6] at hb6
         have h6' : s[k + 1] ≠ 41 := by simpa using h6
         have H6 := Lib.hid h6'; clear h6'
         go_wp2_with (first | (go_at_call 109; refine (Tryz.strings_IndexByte _ _ _).mono ?_; rintro e w' ⟨rfl, rfl⟩) | (go_at_call 110; refine (fail_calls _ _ _ _).mono ?_; rintro e w1 ⟨rfl, rfl⟩))
         refine ⟨rfl, ?_⟩
         rw [← HK.out, HD.out, HA.out, if_neg HST.out, if_neg (by simp [h4]), if_neg (by simp), if_pos h5, HD2.out]
         split
         ·rename_i e; exact absurd (List.cons.inj e).1 H6.out
         ·rw [← HD2.out, drop_len]; exact ⟨k, by omega, by omega, rfl, Chg.refl _ _⟩
       ·have HD2 := Lib.hid (drop_end s (k + 1) hl)
        have e1 : ((k : Int) + 1 == (s.size : Int)) = true := by simp; omega
        go_wp2_with (first | (go_at_call 109; refine (Tryz.strings_IndexByte _ _ _).mono ?_; rintro e w' ⟨rfl, rfl⟩) | (go_at_call 110; refine (fail_calls _ _ _ _).mono ?_; rintro e w1 ⟨rfl, rfl⟩))
        refine ⟨rfl, ?_⟩
        rw [← HK.out, HD.out, HA.out, if_neg HST.out, if_neg (by simp [h4]), if_neg (by simp), if_pos h5, HD2.out]
        exact ⟨k, by omega, by simp; omega, rfl, Chg.refl _ _⟩
     case false =>
      rw [h5] at hb5
      go_wp2_with (go_at_call 109; refine (Tryz.strings_IndexByte _ _ _).mono ?_; rintro e w' ⟨rfl, rfl⟩)
      go_round
      case rel => exact ⟨k + 1, dp, by omega, by omega, by omega, by go_num, rfl, Lib.hid (by rw [← HK.out, HD.out, HA.out, if_neg HST.out, if_neg (by simp [h4]), if_neg (by simp [h5]), if_neg (by simp [h5]), HT.out])⟩
      case measure => simp [intOf]; omega
  ·have HD := Lib.hid (drop_end s k hlt)
   go_wp2_with (go_at_call 110; refine (fail_calls _ _ _ _).mono ?_; rintro e w1 ⟨rfl, rfl⟩)
   refine ⟨rfl, ?_⟩
   rw [← HK.out, HD.out, arith_end]
   exact ⟨a, by omega, by omega, rfl, Chg.refl _ _⟩
end Go.Proofs.YtdfnkmiabmjolaaGreatDoor
