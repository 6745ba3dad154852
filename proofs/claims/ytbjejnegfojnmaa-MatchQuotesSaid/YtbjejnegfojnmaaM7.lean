/- Walks of package match: a pattern cut into pieces. -/
import Derived.Test.YtbjejnegfojnmaaM6
namespace Go.Proofs.Ytbjejnegfojnmaa
open Go.RowKit
set_option linter.unusedVariables false
set_option linter.unusedSimpArgs false

theorem info_Piece : (Try.prog.info? 46).map (fun i => (i.zero, i.size, i.bytes)) = some (some (.agg #[.int .u8 0, .string ⟨#[]⟩]), 2, 24) := by kernel_rfl
theorem setF_le : ∀ (n : Nat) (f : Bool) (r : Bytes) (k : Nat), setF n f r = some k → 1 ≤ k ∧ k ≤ r.length
  | 0, _, _, _, h => by simp [setF] at h
  | _ + 1, _, [], _, h => by simp [setF] at h
  | n + 1, f, c :: r, k, h => by
    rw [setF] at h
    split at h
    · simp only [Option.some.injEq] at h; subst h; simp
    · split at h
      · simp only [Option.map_eq_some_iff] at h
        obtain ⟨j, hj, rfl⟩ := h
        have := setF_le n _ _ j hj
        rename_i hh
        have : r ≠ [] := by simp only [Bool.and_eq_true] at hh; simpa using hh.2
        have : 0 < r.length := List.length_pos_iff.2 this
        simp at *; omega
      · simp only [Option.map_eq_some_iff] at h
        obtain ⟨j, hj, rfl⟩ := h
        have := setF_le n _ _ j hj
        simp; omega
theorem setL_le (r : Bytes) (k : Nat) (h : setL r = some k) : 2 ≤ k ∧ k ≤ r.length + 1 := by
  unfold setL at h
  split at h
  · simp only [Option.map_eq_some_iff] at h
    obtain ⟨j, hj, rfl⟩ := h
    have := setF_le _ _ _ j hj
    simp; omega
  · simp only [Option.map_eq_some_iff] at h
    obtain ⟨j, hj, rfl⟩ := h
    have := setF_le _ _ _ j hj
    omega
theorem cutF_len : ∀ (n : Nat) (p : Bytes), (cutF n p).length ≤ p.length
  | 0, _ => by simp [cutF]
  | _ + 1, [] => by simp [cutF]
  | n + 1, c :: r => by
    have h1 := cutF_len n r
    unfold cutF
    split
    · simp; omega
    split
    · simp; omega
    split
    · split
      · simp
      · rename_i r'
        have := cutF_len n r'
        simp; omega
    split
    · split
      · rename_i k h
        have := cutF_len n (r.drop (k - 1))
        simp at this ⊢; omega
      · simp; omega
    · simp; omega
theorem cutL_len (p : Bytes) : (cutL p).length ≤ p.length := cutF_len _ _
theorem cutF_byte (n : Nat) (c : UInt8) (r : Bytes) (h1 : (c == 42) = false) (h2 : (c == 63) = false) (h3 : (c == 92) = false) (h4 : (c == 91) = false) : cutF (n + 1) (c :: r) = .byte c :: cutF n r := by
  simp only [cutF, h1, h2, h3, h4, Bool.false_eq_true, if_false]
theorem cutF_set (n : Nat) (r : Bytes) (k : Nat) (h : setL r = some k) : cutF (n + 1) (91 :: r) = .set (r.take (k - 2)) :: cutF n (r.drop (k - 1)) := by
  show (match setL r with | some k => Piece.set (r.take (k - 2)) :: cutF n (r.drop (k - 1)) | none => .byte 91 :: cutF n r) = _
  rw [h]
theorem cutF_open (n : Nat) (r : Bytes) (h : setL r = none) : cutF (n + 1) (91 :: r) = .byte 91 :: cutF n r := by
  show (match setL r with | some k => Piece.set (r.take (k - 2)) :: cutF n (r.drop (k - 1)) | none => .byte 91 :: cutF n r) = _
  rw [h]

def CutRel (w : World) (m : Nat) (R : List Piece) (n : Nat) (pv lv : Value) (wr : World) : Prop :=
  ∃ (t : ByteArray) (v : Value) (ps : List Piece), pv = .string t ∧ lv = v ∧ Own wr (fun k => w.heap.size ≤ k) 46 2 v (ps.map Piece.d) ∧ Hid (ps ++ cutF n t.data.toList = R) ∧ t.size < n ∧ ps.length + t.size ≤ m ∧ Chg (fun _ => False) w wr

/-- One piece more. -/
theorem CutRel.next {w wr w1 : World} {m n : Nat} {R : List Piece} {u : ByteArray} {v v1 : Value} {ps : List Piece} {x : Piece} (HO : Own wr (fun k => w.heap.size ≤ k) 46 2 v (ps.map Piece.d)) (hC : Chg (fun _ => False) w wr)
    (hg : wr.grownBy w1 v.ownBlock) (hown : Own w1 (fun k => w.heap.size ≤ k ∨ wr.heap.size ≤ k) 46 2 v1 (ps.map Piece.d ++ [x.d]))
    (hR : ps ++ x :: cutF n u.data.toList = R) (hu : u.size < n) (hm : ps.length + 1 + u.size ≤ m) : CutRel w m R n (.string u) v1 w1 := by
  have hz := hC.size
  refine ⟨u, v1, ps ++ [x], rfl, rfl, ?_, Lib.hid (by rw [← hR]; simp), hu, by simp; omega, hC.trans (Chg.of_grown hg) (fun k e hl => absurd (HO.block e.symm) (by omega))⟩
  rw [List.map_append]
  exact hown.mono (fun k h _ => by rcases h with h | h <;> omega)

set_option pp.deepTerms true in
set_option pp.maxSteps 200000 in
set_option maxRecDepth 100000 in
set_option maxHeartbeats 4000000 in
theorem cut_calls (p : ByteArray) (w : World) (hs : p.size ≤ 1000000) :
    Calls Try.prog 20 #[.string p] w fun e w' => ∃ v, e = .returned v ∧ Own w' (fun k => w.heap.size ≤ k) 46 2 v ((cutL p.data.toList).map Piece.d) ∧ Chg (fun _ => False) w w' := by
  generalize hR : cutL p.data.toList = R
  have HR0 : Hid (cutF (p.size + 1) p.data.toList = R) := Lib.hid (by rw [← hR, cutL, len_data])
  clear hR
  go_enter Try.func20, Try.ntmps20
  go_wp2
  go_loopg [0, 3] (p.size + 1) (CutRel w p.size R)
  case atStart => exact ⟨p, _, [], rfl, rfl, Own.nil _ _ _ _, Lib.hid HR0.out, by omega, by simp, Chg.refl _ _⟩
  case round =>
    obtain ⟨t, v, ps, rfl, rfl, HO, HR, hn, hm, hC⟩ := hrel
    obtain ⟨A, cc, hv, hc1, hc2⟩ := Own.form HO
    rw [List.length_map] at hv hc1
    subst hv
    simp only [maxLen] at hc2
    by_cases h0 : 0 < t.size
    · obtain ⟨g, rfl⟩ : ∃ g, gk = g + 1 := ⟨gk - 1, by omega⟩
      have q0 : (0 : Int) < (t.size : Int) := by omega
      have q1 : (1 : Int) ≤ (t.size : Int) := by omega
      have HD := Lib.hid (data_cons t h0)
      have hq42 : ((t[0].toNat : Int) == 42) = (t[0] == 42) := byte_eqn t[0] 42 (by decide)
      have hq63 : ((t[0].toNat : Int) == 63) = (t[0] == 63) := byte_eqn t[0] 63 (by decide)
      have hq92 : ((t[0].toNat : Int) == 92) = (t[0] == 92) := byte_eqn t[0] 92 (by decide)
      have hq91 : ((t[0].toNat : Int) == 91) = (t[0] == 91) := byte_eqn t[0] 91 (by decide)
      cases h42 : t[0] == 42
      case true =>
        rw [h42] at hq42
        have HC0 : Hid (t[0] = 42) := Lib.hid (by simpa using h42)
        clear hq63 hq92 hq91 h42
        go_wp2_with (at_builtin; refine own_append (fun k => w.heap.size ≤ k) (fun _ => False) rfl _ _ _ _ _ 2 24 rfl Try.underlying33 info_Piece rfl (by decide) (by decide) (.slice A ps.length cc) (ps.map Piece.d) (Piece.star).d _ rfl (by simp [Act.eval]) (piece_rep.2 (by first | rfl | (rw [HC0.out]; rfl))) rfl (fun _ h _ => h.elim) HO (by rw [List.length_map]; omega) ?_)
        intro v1 w1 hown1 hg1 _
        go_wp2
        go_roundg g
        case measure => omega
        case rel => exact CutRel.next HO hC hg1 hown1 (by rw [← HR.out]; (rw [HD.out, HC0.out, Lib.extract_to_end]; rfl)) (by simp [ByteArray.size_extract]; omega) (by simp [ByteArray.size_extract]; omega)
      case false =>
        rw [h42] at hq42
        cases h63 : t[0] == 63
        case true =>
          rw [h63] at hq63
          have HC0 : Hid (t[0] = 63) := Lib.hid (by simpa using h63)
          clear hq92 hq91 h63 h42
          go_wp2_with (at_builtin; refine own_append (fun k => w.heap.size ≤ k) (fun _ => False) rfl _ _ _ _ _ 2 24 rfl Try.underlying33 info_Piece rfl (by decide) (by decide) (.slice A ps.length cc) (ps.map Piece.d) (Piece.any).d _ rfl (by simp [Act.eval]) (piece_rep.2 (by first | rfl | (rw [HC0.out]; rfl))) rfl (fun _ h _ => h.elim) HO (by rw [List.length_map]; omega) ?_)
          intro v1 w1 hown1 hg1 _
          go_wp2
          go_roundg g
          case measure => omega
          case rel => exact CutRel.next HO hC hg1 hown1 (by rw [← HR.out]; (rw [HD.out, HC0.out, Lib.extract_to_end]; rfl)) (by simp [ByteArray.size_extract]; omega) (by simp [ByteArray.size_extract]; omega)
        case false =>
          rw [h63] at hq63
          cases h92 : t[0] == 92
          case true =>
            rw [h92] at hq92
            have HC0 : Hid (t[0] = 92) := Lib.hid (by simpa using h92)
            clear hq91 h92 h63 h42
            by_cases h1 : 1 < t.size
            · have q2 : decide ((t.size : Int) < (2 : Int)) = false := by rw [decide_eq_false_iff_not]; omega
              have q3 : (2 : Int) ≤ (t.size : Int) := by omega
              have HX : Hid (t.extract 1 2 = bstr [t[1]]) := Lib.hid (by rw [extract_bstr, byte_drop t 1 h1]; rfl)
              have HD1 := Lib.hid (byte_drop t 1 h1)
              go_wp2_with (at_builtin; refine own_append (fun k => w.heap.size ≤ k) (fun _ => False) rfl _ _ _ _ _ 2 24 rfl Try.underlying33 info_Piece rfl (by decide) (by decide) (.slice A ps.length cc) (ps.map Piece.d) (Piece.byte t[1]).d _ rfl (by simp [Act.eval]) (piece_rep.2 (by first | rfl | (rw [HX.out]; rfl))) rfl (fun _ h _ => h.elim) HO (by rw [List.length_map]; omega) ?_)
              intro v1 w1 hown1 hg1 _
              go_wp2
              go_roundg g
              case measure => omega
              case rel => exact CutRel.next HO hC hg1 hown1 (by rw [← HR.out]; (rw [HD.out, HC0.out, HD1.out, Lib.extract_to_end]; rfl)) (by simp [ByteArray.size_extract]; omega) (by simp [ByteArray.size_extract]; omega)
            · have hz : t.size = 1 := by omega
              have hz1 : (t.size : Int) = 1 := by omega
              have HX : Hid (t.extract 0 1 = bstr [92]) := Lib.hid (by rw [extract_bstr, List.drop_zero, data_cons t h0, show t[0] = 92 from HC0.out]; rfl)
              have HD1 : Hid (t.data.toList.drop 1 = []) := Lib.hid (drop_end t 1 h1)
              clear h1
              go_wp2_with (at_builtin; refine own_append (fun k => w.heap.size ≤ k) (fun _ => False) rfl _ _ _ _ _ 2 24 rfl Try.underlying33 info_Piece rfl (by decide) (by decide) (.slice A ps.length cc) (ps.map Piece.d) (Piece.byte 92).d _ rfl (by simp [Act.eval]) (piece_rep.2 (by first | rfl | (rw [HX.out]; rfl))) rfl (fun _ h _ => h.elim) HO (by rw [List.length_map]; omega) ?_)
              intro v1 w1 hown1 hg1 _
              go_wp2
              go_roundg g
              case measure => omega
              case rel => exact CutRel.next HO hC hg1 hown1 (by rw [← HR.out]; (rw [HD.out, HC0.out, HD1.out]; cases g <;> rfl)) (by simp [ByteArray.size_extract]; omega) (by simp [ByteArray.size_extract]; omega)
          case false =>
            rw [h92] at hq92
            cases h91 : t[0] == 91
            case true =>
              rw [h91] at hq91
              have HC0 : Hid (t[0] = 91) := Lib.hid (by simpa using h91)
              clear h91 h92 h63 h42
              have hset := fun w => set_calls t w h0 (by omega)
              unfold setN at hset
              cases hk : setL (t.data.toList.drop 1) with
              | none =>
                rw [hk] at hset
                have HF := Lib.hid (cutF_open g (t.data.toList.drop 1) hk)
                have HX : Hid (t.extract 0 1 = bstr [91]) := Lib.hid (by rw [extract_bstr, List.drop_zero, data_cons t h0, show t[0] = 91 from HC0.out]; rfl)
                clear hk
                go_wp2_with fail
                refine Calls.mono (hset _) ?_
                rintro e w1 ⟨rfl, rfl⟩
                clear hset
                go_wp2_with (at_builtin; refine own_append (fun k => w.heap.size ≤ k) (fun _ => False) rfl _ _ _ _ _ 2 24 rfl Try.underlying33 info_Piece rfl (by decide) (by decide) (.slice A ps.length cc) (ps.map Piece.d) (Piece.byte 91).d _ rfl (by simp [Act.eval]) (piece_rep.2 (by first | rfl | (rw [HX.out]; rfl))) rfl (fun _ h _ => h.elim) HO (by rw [List.length_map]; omega) ?_)
                intro v1 w1 hown1 hg1 _
                go_wp2
                go_roundg g
                case measure => omega
                case rel => exact CutRel.next HO hC hg1 hown1 (by rw [← HR.out]; (rw [HD.out, HC0.out, HF.out, Lib.extract_to_end])) (by simp [ByteArray.size_extract]; omega) (by simp [ByteArray.size_extract]; omega)
              | some k =>
                rw [hk] at hset
                have HF := Lib.hid (cutF_set g (t.data.toList.drop 1) k hk)
                have hk2 := setL_le _ _ hk
                rw [drop_len] at hk2
                have HX : Hid (t.extract 1 (k - 1) = bstr ((t.data.toList.drop 1).take (k - 2))) := Lib.hid (by rw [extract_bstr, show k - 1 - 1 = k - 2 by omega])
                clear hk
                generalize (t.data.toList.drop 1).take (k - 2) = X at *
                have p0 : (0 : Int) < (k : Int) := by omega
                have p1 : (k : Int) ≤ (t.size : Int) := by omega
                have p2 : (1 : Int) ≤ (k : Int) - 1 := by omega
                have p3 : (k : Int) - 1 ≤ (t.size : Int) := by omega
                have p4 : ((k : Int) - 1).toNat = k - 1 := by omega
                have p5 : IntKind.i64.wrap ((k : Int) - 1) = (k : Int) - 1 := IntWalk.i64_in _ (by omega)
                have p6 : (0 : Int) ≤ (k : Int) := by omega
                go_wp2_with fail
                refine Calls.mono (hset _) ?_
                rintro e w1 ⟨rfl, rfl⟩
                clear hset
                go_wp2_with (at_builtin; refine own_append (fun k => w.heap.size ≤ k) (fun _ => False) rfl _ _ _ _ _ 2 24 rfl Try.underlying33 info_Piece rfl (by decide) (by decide) (.slice A ps.length cc) (ps.map Piece.d) (Piece.set X).d _ rfl (by simp [Act.eval]) (piece_rep.2 (by first | rfl | (rw [HX.out]; rfl))) rfl (fun _ h _ => h.elim) HO (by rw [List.length_map]; omega) ?_)
                intro v1 w1 hown1 hg1 _
                go_wp2
                go_roundg g
                case measure => omega
                case rel => exact CutRel.next HO hC hg1 hown1 (by rw [← HR.out]; (rw [HD.out, HC0.out, HF.out, Lib.extract_to_end, List.drop_drop, show 1 + (k - 1) = k by omega])) (by simp [ByteArray.size_extract]; omega) (by simp [ByteArray.size_extract]; omega)
            case false =>
              rw [h91] at hq91
              have HF := Lib.hid (cutF_byte g t[0] (t.data.toList.drop 1) h42 h63 h92 h91)
              clear h42 h63 h92 h91
              have HX : Hid (t.extract 0 1 = bstr [t[0]]) := Lib.hid (by rw [extract_bstr, List.drop_zero, data_cons t h0]; rfl)
              go_wp2_with (at_builtin; refine own_append (fun k => w.heap.size ≤ k) (fun _ => False) rfl _ _ _ _ _ 2 24 rfl Try.underlying33 info_Piece rfl (by decide) (by decide) (.slice A ps.length cc) (ps.map Piece.d) (Piece.byte t[0]).d _ rfl (by simp [Act.eval]) (piece_rep.2 (by first | rfl | (rw [HX.out]; rfl))) rfl (fun _ h _ => h.elim) HO (by rw [List.length_map]; omega) ?_)
              intro v1 w1 hown1 hg1 _
              go_wp2
              go_roundg g
              case measure => omega
              case rel => exact CutRel.next HO hC hg1 hown1 (by rw [← HR.out]; (rw [HD.out, HF.out, Lib.extract_to_end])) (by simp [ByteArray.size_extract]; omega) (by simp [ByteArray.size_extract]; omega)
    · have q0 : decide ((0 : Int) < (t.size : Int)) = false := by rw [decide_eq_false_iff_not]; omega
      have HR1 : Hid (ps = R) := Lib.hid (by
        rw [← HR.out, show t.data.toList = [] from drop_end t 0 h0]
        cases gk with
        | zero => simp [cutF]
        | succ n => simp [cutF])
      clear hm hn
      go_wp2
      go_ret
      exact ⟨_, rfl, HR1.out ▸ HO, hC⟩
end Go.Proofs.Ytbjejnegfojnmaa
