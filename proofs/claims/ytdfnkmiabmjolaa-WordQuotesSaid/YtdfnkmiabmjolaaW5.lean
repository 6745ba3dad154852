/- Walks of package word: where parentheses end, parameters, operations. -/
import Derived.Test.YtdfnkmiabmjolaaW4
namespace Go.Proofs.Ytdfnkmiabmjolaa
open Go.RowKit
set_option linter.unusedVariables false
set_option linter.unusedSimpArgs false

/-- 'insideF' as Go tells it: a place in the text. -/
def insideI (n deep i : Nat) (l : Bytes) : Int := match insideF n deep l with | none => -1 | some k => i + k
theorem insideI_end (n deep i : Nat) : insideI (n + 1) deep i [] = -1 := rfl
theorem map_place (o : Option Nat) (i k : Nat) : (match o.map (· + k) with | none => (-1 : Int) | some j => i + j) = match o with | none => -1 | some j => ((i + k : Nat) : Int) + j := by
  cases o with
  | none => rfl
  | some v => show ((i : Int) + ((v + k : Nat) : Int)) = ((i + k : Nat) : Int) + v; omega
theorem insideI_bs (n deep i : Nat) (c : UInt8) (l : Bytes) (h : (c == 92) = true) : insideI (n + 1) deep i (c :: l) = insideI n deep (i + 2) (l.drop 1) := by
  simp only [insideI, insideF, h, if_true, map_place]
theorem insideI_q (n deep i : Nat) (c : UInt8) (l : Bytes) (h : (c == 92) = false) (h' : (c == 39 || c == 34) = true) :
    insideI (n + 1) deep i (c :: l) = match closed c l with | none => -1 | some k => insideI n deep (i + (k + 2)) (l.drop (k + 1)) := by
  simp only [insideI, insideF, h, h', if_true, Bool.false_eq_true, if_false]
  cases closed c l with
  | none => rfl
  | some k => simp only [map_place]
theorem insideI_open (n deep i : Nat) (c : UInt8) (l : Bytes) (h : (c == 92) = false) (h' : (c == 39 || c == 34) = false) (h1 : (c == 40) = true) : insideI (n + 1) deep i (c :: l) = insideI n (deep + 1) (i + 1) l := by
  simp only [insideI, insideF, h, h', h1, if_true, Bool.false_eq_true, if_false, map_place]
theorem insideI_close (n deep i : Nat) (c : UInt8) (l : Bytes) (h : (c == 92) = false) (h' : (c == 39 || c == 34) = false) (h1 : (c == 40) = false) (h2 : (c == 41) = true) (h3 : 0 < deep) : insideI (n + 1) deep i (c :: l) = insideI n (deep - 1) (i + 1) l := by
  have h3' : (deep == 0) = false := by simp; omega
  simp only [insideI, insideF, h, h', h1, h2, h3', if_true, Bool.false_eq_true, if_false, map_place]
theorem insideI_found (n i : Nat) (c : UInt8) (l : Bytes) (h : (c == 92) = false) (h' : (c == 39 || c == 34) = false) (h1 : (c == 40) = false) (h2 : (c == 41) = true) : insideI (n + 1) 0 i (c :: l) = i := by
  simp [insideI, insideF, h, h', h1, h2]
theorem insideI_step (n deep i : Nat) (c : UInt8) (l : Bytes) (h : (c == 92) = false) (h' : (c == 39 || c == 34) = false) (h1 : (c == 40) = false) (h2 : (c == 41) = false) : insideI (n + 1) deep i (c :: l) = insideI n deep (i + 1) l := by
  simp only [insideI, insideF, h, h', h1, h2, Bool.false_eq_true, if_false, map_place]
theorem closed_lt (q : UInt8) : ∀ (l : Bytes) (k : Nat), closed q l = some k → k < l.length
  | [], k, h => by simp [closed] at h
  | [c], k, h => by
    rw [closed_cons] at h
    split at h
    · simp at h; simp; omega
    · split at h
      · simp at h
      · simp [closed] at h
  | c :: d :: l, k, h => by
    rw [closed_cons] at h
    split at h
    · simp at h; simp; omega
    · split at h
      · simp only [Option.map_eq_some_iff] at h
        obtain ⟨j, hj, rfl⟩ := h
        have := closed_lt q l j hj
        simp; omega
      · simp only [Option.map_eq_some_iff] at h
        obtain ⟨j, hj, rfl⟩ := h
        have := closed_lt q (d :: l) j hj
        simp at this ⊢; omega

set_option maxHeartbeats 2000000 in
theorem inside_calls (s : ByteArray) (w : World) (hs : s.size ≤ 140737488355328) :
    Calls Try.prog 21 #[.string s] w fun e w' => e = .returned (.int .i64 (insideI (s.size + 1) 0 0 s.data.toList)) ∧ w = w' := by
  generalize hR : insideI (s.size + 1) 0 0 s.data.toList = R
  have HR := Lib.hid hR; clear hR
  go_enter Try.func21, Try.ntmps21
  go_wp2
  go_loop [3, 4] (fun d i => ∃ n k dp : Nat, k ≤ s.size + 1 ∧ dp ≤ k ∧ s.size - k < n ∧ i = .int .i64 k ∧ d = .int .i64 dp ∧ Hid (insideI n dp k (s.data.toList.drop k) = R)) (fun _ i => s.size + 1 - (intOf i).toNat)
  case atStart => exact ⟨s.size + 1, 0, 0, by omega, by omega, by omega, by go_num, by go_num, HR⟩
  case round =>
    obtain ⟨n, k, dp, hk, hdp, hn, rfl, rfl, HK⟩ := hrel
    clear HR
    by_cases hlt : k < s.size
    · obtain ⟨n, rfl⟩ : ∃ m, n = m + 1 := ⟨n - 1, by omega⟩
      have hd := byte_drop s k hlt
      have HD := Lib.hid hd; clear hd
      have hb1 : ((s[k].toNat : Int) == 92) = (s[k] == 92) := byte_eqn s[k] 92 (by decide)
      have hb2 : ((s[k].toNat : Int) == 39) = (s[k] == 39) := byte_eqn s[k] 39 (by decide)
      have hb3 : ((s[k].toNat : Int) == 34) = (s[k] == 34) := byte_eqn s[k] 34 (by decide)
      have hb4 : ((s[k].toNat : Int) == 40) = (s[k] == 40) := byte_eqn s[k] 40 (by decide)
      have hb5 : ((s[k].toNat : Int) == 41) = (s[k] == 41) := byte_eqn s[k] 41 (by decide)
      cases h1 : s[k] == 92
      case true =>
        rw [h1] at hb1
        go_wp2
        go_round
        case rel => exact ⟨n, k + 2, dp, by omega, by omega, by omega, by go_num, rfl, Lib.hid (by rw [← HK.out, HD.out, insideI_bs _ _ _ _ _ h1, List.drop_drop])⟩
        case measure => simp [intOf]; omega
      case false =>
        rw [h1] at hb1
        cases h2 : (s[k] == 39 || s[k] == 34)
        case true =>
          have hc : closedI s[k] (k + 1) (s.data.toList.drop (k + 1)) = match closed s[k] (s.data.toList.drop (k + 1)) with | none => -1 | some j => ((k + 1 : Nat) : Int) + j := rfl
          have hi := insideI_q n dp k s[k] (s.data.toList.drop (k + 1)) h1 h2
          have HI := Lib.hid hi; clear hi
          cases hcl : closed s[k] (s.data.toList.drop (k + 1)) with
          | none =>
            rw [hcl] at hc
            have hc' : closedI s[k] (k + 1) (s.data.toList.drop (k + 1)) = -1 := hc
            have HCL := Lib.hid hcl; clear hcl hc
            cases h39 : s[k] == 39
            all_goals
              rw [h39] at hb2 h2
              try (have h34 : (s[k] == 34) = true := by simpa using h2)
              try rw [h34] at hb3
              clear h2
              go_wp2_with (go_at_call 32; refine (closed_calls _ _ _ hlt (by omega)).mono ?_; rintro e w' ⟨rfl, rfl⟩; rw [hc'])
              go_ret
              exact ⟨ret_int (by rw [← HK.out, HD.out, HI.out, HCL.out]), rfl⟩
          | some j =>
            rw [hcl] at hc
            have hj := closed_lt _ _ _ hcl
            rw [drop_len] at hj
            have hc' : closedI s[k] (k + 1) (s.data.toList.drop (k + 1)) = ((k + 1 + j : Nat) : Int) := by rw [hc]; show ((k + 1 : Nat) : Int) + j = _; omega
            have HCL := Lib.hid hcl; clear hcl hc
            cases h39 : s[k] == 39
            all_goals
              rw [h39] at hb2 h2
              try (have h34 : (s[k] == 34) = true := by simpa using h2)
              try rw [h34] at hb3
              clear h2
              go_wp2_with (go_at_call 32; refine (closed_calls _ _ _ hlt (by omega)).mono ?_; rintro e w' ⟨rfl, rfl⟩; rw [hc'])
              go_round
              case rel => exact ⟨n, k + (j + 2), dp, by omega, by omega, by omega, by go_num, rfl, Lib.hid (by rw [← HK.out, HD.out, HI.out, HCL.out]; show _ = insideI n dp (k + (j + 2)) (List.drop (j + 1) (List.drop (k + 1) s.data.toList)); rw [List.drop_drop]; congr 2; omega)⟩
              case measure => simp [intOf]; omega
        case false =>
          have h39 : (s[k] == 39) = false := by revert h2; cases (s[k] == 39) <;> simp
          have h34 : (s[k] == 34) = false := by revert h2; cases (s[k] == 34) <;> simp
          rw [h39] at hb2
          rw [h34] at hb3
          cases h4 : s[k] == 40
          case true =>
            rw [h4] at hb4
            go_wp2
            go_round
            case rel => exact ⟨n, k + 1, dp + 1, by omega, by omega, by omega, by go_num, by go_num, Lib.hid (by rw [← HK.out, HD.out, insideI_open _ _ _ _ _ h1 h2 h4])⟩
            case measure => simp [intOf]; omega
          case false =>
            rw [h4] at hb4
            cases h5 : s[k] == 41
            case true =>
              rw [h5] at hb5
              by_cases hp : 0 < dp
              · go_wp2
                go_round
                case rel => exact ⟨n, k + 1, dp - 1, by omega, by omega, by omega, by go_num, by go_num, Lib.hid (by rw [← HK.out, HD.out, insideI_close _ _ _ _ _ h1 h2 h4 h5 hp])⟩
                case measure => simp [intOf]; omega
              · obtain rfl : dp = 0 := by omega
                go_wp2
                go_ret
                exact ⟨ret_int (by rw [← HK.out, HD.out, insideI_found _ _ _ _ h1 h2 h4 h5]), rfl⟩
            case false =>
              rw [h5] at hb5
              go_wp2
              go_round
              case rel => exact ⟨n, k + 1, dp, by omega, by omega, by omega, by go_num, rfl, Lib.hid (by rw [← HK.out, HD.out, insideI_step _ _ _ _ _ h1 h2 h4 h5])⟩
              case measure => simp [intOf]; omega
    · have hd := drop_end s k hlt
      have HD := Lib.hid hd; clear hd
      obtain ⟨n, rfl⟩ : ∃ m, n = m + 1 := ⟨n - 1, by omega⟩
      go_wp2
      go_ret
      exact ⟨ret_int (by rw [← HK.out, HD.out]; rfl), rfl⟩

theorem parameter_cons (s : ByteArray) (h : 0 < s.size) : parameter s.data.toList = if named s.data.toList > 0 then named s.data.toList else if special s[0] then 1 else (s.data.toList.takeWhile digit).length := by
  have e := byte_drop s 0 h
  simp only [List.drop_zero, Nat.zero_add] at e
  generalize s.data.toList = l at *
  rw [e]
  rfl

set_option maxHeartbeats 1000000 in
theorem parameter_calls (s : ByteArray) (w : World) (hs : s.size ≤ 140737488355328) : Calls Try.prog 58 #[.string s] w fun e w' => e = .returned (.int .i64 (parameter s.data.toList)) ∧ w = w' := by
  by_cases h0 : 0 < s.size
  · have hp := parameter_cons s h0
    have HP := Lib.hid hp; clear hp
    have he := isEmpty_pos s h0
    by_cases h1 : 0 < named s.data.toList
    · go_enter Try.func58, Try.ntmps58
      go_wp2_with (go_at_call 30; refine (named_calls _ _ (by omega)).mono ?_; rintro e w' ⟨rfl, rfl⟩)
      go_ret
      exact ⟨ret_int (by rw [HP.out, if_pos h1]), rfl⟩
    · have h1' : named s.data.toList = 0 := by omega
      cases h2 : special s[0]
      · go_enter Try.func58, Try.ntmps58
        go_wp2_with (first | (go_at_call 30; refine (named_calls _ _ (by omega)).mono ?_; rintro e w' ⟨rfl, rfl⟩) | (go_at_call 47; refine (special_calls _ _).mono ?_; rintro e w' ⟨rfl, rfl⟩))
        go_loop [3] (fun n => ∃ k : Nat, k ≤ s.size ∧ n = .int .i64 k ∧ Hid ((s.data.toList.takeWhile digit).length = k + ((s.data.toList.drop k).takeWhile digit).length)) (fun n => s.size - (intOf n).toNat)
        case atStart => exact ⟨0, by omega, by simp, Lib.hid (by simp)⟩
        case round =>
          obtain ⟨k, hk2, rfl, HK⟩ := hrel
          by_cases hlt : k < s.size
          · have hst := takeWhile_step (p := digit) s k hlt
            have hd : digit s[k] = digitB s[k].toNat := rfl
            rw [hd] at hst
            have HS := Lib.hid hst; clear hst hd
            cases h3 : digitB s[k].toNat
            · go_wp2_with (go_at_call 16; refine (digit_calls _ _).mono ?_; rintro e w' ⟨rfl, rfl⟩)
              go_ret
              exact ⟨ret_int (by rw [HP.out, if_neg h1, h2, if_neg (by simp), HK.out, HS.out]; simp [h3]), rfl⟩
            · go_wp2_with (go_at_call 16; refine (digit_calls _ _).mono ?_; rintro e w' ⟨rfl, rfl⟩)
              go_round
              case rel => exact ⟨k + 1, by omega, by go_num, Lib.hid (by rw [HK.out, HS.out]; simp [h3]; omega)⟩
              case measure => simp [intOf]; omega
          · have hst := takeWhile_end (p := digit) s k hlt
            have HS := Lib.hid hst; clear hst
            go_wp2
            go_ret
            exact ⟨ret_int (by rw [HP.out, if_neg h1, h2, if_neg (by simp), HK.out, HS.out]; simp), rfl⟩
      · go_enter Try.func58, Try.ntmps58
        go_wp2_with (first | (go_at_call 30; refine (named_calls _ _ (by omega)).mono ?_; rintro e w' ⟨rfl, rfl⟩) | (go_at_call 47; refine (special_calls _ _).mono ?_; rintro e w' ⟨rfl, rfl⟩))
        go_ret
        exact ⟨ret_int (by rw [HP.out, if_neg h1, h2]; rfl), rfl⟩
  · have he := isEmpty_zero s h0
    have hn := nil_zero s h0
    have hnm : named s.data.toList = 0 := by rw [hn]; rfl
    have HN := Lib.hid hn; clear hn
    go_enter Try.func58, Try.ntmps58
    go_wp2_with (go_at_call 30; refine (named_calls _ _ (by omega)).mono ?_; rintro e w' ⟨rfl, rfl⟩)
    go_ret
    exact ⟨ret_int (by rw [HN.out]; rfl), rfl⟩

theorem opL_drop (s : Bytes) (k : Nat) (hk : k < 12) : opL (ops.drop k) s = if (ops.getD k []).isPrefixOf s then ops.getD k [] else opL (ops.drop (k + 1)) s := by
  have h : ops.drop k = ops.getD k [] :: ops.drop (k + 1) := by
    rw [List.drop_eq_getElem_cons (show k < ops.length from hk)]
    congr 1
    simp [List.getD_eq_getElem?_getD, List.getElem?_eq_getElem (show k < ops.length from hk)]
  rw [h, opL]
theorem opL_end (s : Bytes) : opL (ops.drop 12) s = [] := rfl

set_option maxRecDepth 100000 in
set_option maxHeartbeats 1000000 in
theorem op_calls (s : ByteArray) (w : World) : Calls Try.prog 59 #[.string s] w fun e w' => e = .returned (.string (bstr (opM s.data.toList))) ∧ Chg (fun _ => False) w w' := by
  generalize hR : opM s.data.toList = R
  have HR := Lib.hid hR; clear hR
  go_enter Try.func59, Try.ntmps59
  go_wp2
  have hcells : ∀ k, k < 12 → (w.alloc (.cells #[.string ⟨#[58, 45]⟩, .string ⟨#[58, 61]⟩, .string ⟨#[58, 63]⟩, .string ⟨#[58, 43]⟩, .string ⟨#[37, 37]⟩, .string ⟨#[35, 35]⟩, .string ⟨#[45]⟩, .string ⟨#[61]⟩, .string ⟨#[63]⟩, .string ⟨#[43]⟩, .string ⟨#[37]⟩, .string ⟨#[35]⟩] 9)).cell? ⟨w.heap.size, k, none⟩ = some (.string (bstr (ops.getD k []))) := by
    intro k hk
    rw [cell_of_row _ _ _ _ _ _ (heap_alloc_new w _)]
    have : k = 0 ∨ k = 1 ∨ k = 2 ∨ k = 3 ∨ k = 4 ∨ k = 5 ∨ k = 6 ∨ k = 7 ∨ k = 8 ∨ k = 9 ∨ k = 10 ∨ k = 11 := by omega
    rcases this with rfl | rfl | rfl | rfl | rfl | rfl | rfl | rfl | rfl | rfl | rfl | rfl <;> rfl
  have hC : Chg (fun _ => False) w (w.alloc (.cells #[.string ⟨#[58, 45]⟩, .string ⟨#[58, 61]⟩, .string ⟨#[58, 63]⟩, .string ⟨#[58, 43]⟩, .string ⟨#[37, 37]⟩, .string ⟨#[35, 35]⟩, .string ⟨#[45]⟩, .string ⟨#[61]⟩, .string ⟨#[63]⟩, .string ⟨#[43]⟩, .string ⟨#[37]⟩, .string ⟨#[35]⟩] 9)) := (Chg.refl _ _).alloc _
  generalize w.alloc _ = W at *
  have HC := Lib.hid hC; clear hC
  generalize w.heap.size = B at *
  go_loop [7] (fun n => ∃ k : Nat, k ≤ 12 ∧ n = .int .i64 k ∧ Hid (opL (ops.drop k) s.data.toList = R)) (fun n => 12 - (intOf n).toNat)
  case atStart => exact ⟨0, by omega, by go_num, HR⟩
  case round =>
    obtain ⟨k, hk, rfl, HK⟩ := hrel
    clear HR
    by_cases hlt : k < 12
    · have hc := hcells k hlt
      clear hcells
      have hd := opL_drop s.data.toList k hlt
      have HD := Lib.hid hd; clear hd
      generalize ops.getD k [] = o at *
      cases h1 : o.isPrefixOf s.data.toList
      all_goals
        have hp : Lib.hasPrefix s.data.toList (bstr o).data.toList = o.isPrefixOf s.data.toList := by rw [bstr_toList]; rfl
        rw [h1] at hp
        go_wp2_with (go_at_call 48; refine (Try.strings_HasPrefix _ _ _).mono ?_; rintro e w' ⟨rfl, rfl⟩; rw [hp])
      · go_round
        case rel => exact ⟨k + 1, by omega, by go_num, Lib.hid (by rw [← HK.out, HD.out, h1]; simp)⟩
        case measure => simp [intOf]; omega
      · go_ret
        exact ⟨by rw [← HK.out, HD.out, h1]; rfl, HC.out⟩
    · obtain rfl : k = 12 := by omega
      clear hcells
      go_wp2
      go_ret
      exact ⟨by rw [← HK.out]; rfl, HC.out⟩
end Go.Proofs.Ytdfnkmiabmjolaa
