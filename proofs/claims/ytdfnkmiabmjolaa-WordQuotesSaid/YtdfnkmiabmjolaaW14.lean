/- Walks of package word: a word. -/
import Derived.Test.YtdfnkmiabmjolaaW13
namespace Go.Proofs.Ytdfnkmiabmjolaa
open Go.RowKit
set_option linter.unusedVariables false
set_option linter.unusedSimpArgs false

theorem word_nil (n d : Nat) (br q : Bool) (l : List Part) : wordF (n + 1) d br q l [] = .ok l [] := by rw [wordF]
theorem word_cons (n d : Nat) (br q : Bool) (l : List Part) (c : UInt8) (r : Bytes) : wordF (n + 1) d br q l (c :: r) =
    if (br && c == 125) || (!br && metaB c) then .ok l (c :: r)
    else if c == 92 then (match escape l (c :: r) with | .ok l' r' => wordF n d br q l' r' | .err a e => .err a e)
    else if c == 39 then (match idx 39 r with | none => .err (r.length + 1) 60 | some k => wordF n d br q (add l (lit (r.take k) true)) (r.drop (k + 1)))
    else if c == 34 then (match doubleF n d (r.length + 1) l r with | .ok l' r' => wordF n d br q l' r' | .err a e => .err a e)
    else if c == 96 then .err (r.length + 1) 61
    else if c == 36 then (match dollarF n d q r with | .ok p r' => wordF n d br q (add l p) r' | .err a e => .err a e)
    else wordF n d br q (add l (lit [c] q)) r := by rw [wordF]; rfl

theorem indexByte_idx (c : UInt8) : ∀ l : Bytes, Lib.indexByte l c = (match idx c l with | none => (-1 : Int) | some k => (k : Int))
  | [] => rfl
  | b :: l => by
    have h := indexByte_idx c l
    rw [Lib.indexByte, idx, h]
    by_cases e : (b == c) = true
    · rw [if_pos e, if_pos e]; rfl
    · rw [if_neg e, if_neg e]
      cases idx c l with
      | none => rfl
      | some k =>
        have : (((k : Int) == -1) = true) = False := by simp
        simp [this]

theorem ix_q (t : ByteArray) (w : World) (x : Int) (hx : Lib.indexByte t.data.toList 39 = x) : Calls Try.prog 28 #[.string t, .int .u8 39] w fun e w' => e = .returned (.int .i64 x) ∧ w' = w :=
  (Try.strings_IndexByte t 39 w).mono fun _ _ hh => ⟨by rw [← hx]; exact hh.1, by first | exact hh.2 | exact hh.2.symm⟩

/-- What holds at the head of a round, in a word. -/
def WordRel (w : World) (g : Nat) (s : ByteArray) (a d : Nat) (br q : Bool) (R : Rs (List Part)) (k : Nat) (v : Value) (wr : World) (b : Nat) (l : List Part) : Prop :=
  ScanAt wr g s b d ∧ a ≤ b ∧ b ≤ s.size ∧ 4 * (s.size - b) + 3 ≤ k ∧ Own wr (fun j => w.heap.size ≤ j) 35 5 v (Part.ds l) ∧ Chg (fun j => j = g ∨ False) w wr ∧
    Part.wts l + 2 * (s.size - b) ≤ 40000 ∧ wordF k d br q l (s.data.toList.drop b) = R


set_option maxRecDepth 100000 in
set_option maxHeartbeats 1000000 in
theorem word_said (n : Nat) (IH : ∀ m, m < n → DoubleSaid m ∧ DollarSaid m) : WordSaid n := by
  intro w g s a d br q h ha hs hd hf
  generalize hR : wordF n d br q [] (s.data.toList.drop a) = R
  have HR := Lib.hid hR; clear hR
  obtain ⟨h0, h1, h2, f1, _, hgl⟩ := h.cells
  have hgw := hgl
  go_enter Try.func27, Try.ntmps27
  go_wp2
  go_loopg [7] n (fun k v' wr => k ≤ n ∧ ∃ b l', WordRel w g s a d br q R k v' wr b l')
  case atStart =>
    exact ⟨Nat.le_refl _, a, [], h, by omega, by omega, by omega, Own.nil _ _ _ _, Chg.refl _ _, by simp [Part.wts]; omega, HR.out⟩
  case round =>
    obtain ⟨hkn, b, l', hA, hb1, hb2, hk, hO', hC, hwt, HK0⟩ := hrel
    have HK := Lib.hid HK0; clear HK0
    obtain ⟨A0, c0, hv0, _, _⟩ := hO'.form
    have HV := Lib.hid hv0; clear hv0
    obtain ⟨k0, k1, k2, kf1, _, kgl⟩ := hA.cells
    clear h0 h1 h2 f1 hgl
    have hSg : ∀ k, w.heap.size ≤ k → ¬ k = g := fun k hk e => by omega
    have hugb : ∀ j, u7.ownBlock = some j → j ≠ g := fun j hj => hSg j (hO'.block hj)
    by_cases hlt : b < s.size
    · cases br
      case true =>
        obtain ⟨m, rfl⟩ : ∃ m, gk = m + 1 := ⟨gk - 1, by omega⟩
        have HD := Lib.hid (byte_drop s b hlt)
        have HCONS := Lib.hid (word_cons m d true q l' s[b] (s.data.toList.drop (b + 1)))
        have hx := extract_one s b hlt
        have q0 : (0 : Int) ≤ (b : Int) := by omega
        have q1 : (b : Int) < (s.size : Int) := by omega
        have hq125 : ((s[b].toNat : Int) == 125) = (s[b] == 125) := byte_eqn s[b] 125 (by decide)
        have hq39 : ((s[b].toNat : Int) == 39) = (s[b] == 39) := byte_eqn s[b] 39 (by decide)
        have hq34 : ((s[b].toNat : Int) == 34) = (s[b] == 34) := byte_eqn s[b] 34 (by decide)
        have hq96 : ((s[b].toNat : Int) == 96) = (s[b] == 96) := byte_eqn s[b] 96 (by decide)
        have hq36 : ((s[b].toNat : Int) == 36) = (s[b] == 36) := byte_eqn s[b] 36 (by decide)
        have hq92 : ((s[b].toNat : Int) == 92) = (s[b] == 92) := byte_eqn s[b] 92 (by decide)
        go_wp2
        go_quiet (fail)
        go_wp2
        go_quiet (fail)
        generalize s[b] = c at *
        have HSTOP : Hid (((true && c == 125) || (!true && metaB c)) = (c == 125)) := Lib.hid (by simp)
        cases hstop : (c == 125)
        case true =>
          rw [hstop] at hq125
          have HR1 : Hid (R = .ok l' (s.data.toList.drop b)) := Lib.hid (by
            rw [← HK.out, HD.out, HCONS.out, HSTOP.out, hstop, if_pos rfl])
          go_wp2_with (fail)
          go_ret
          rw [HR1.out]
          exact ⟨u7, b, rfl, by omega, rfl, (hO'.stay ((Chg.refl (fun _ => False) _).drewN _) (fun _ _ e => e)).mono (fun j h _ => .inr h), hA, hC.drewN _⟩
        case false =>
          rw [hstop] at hq125
          have HNS : Hid (((true && c == 125) || (!true && metaB c)) = false) := Lib.hid (by rw [HSTOP.out, hstop])
          clear HSTOP
          cases h92 : c == 92
          case true =>
            rw [h92] at hq92
            go_wp2_with (fail)
            have HD1 : Hid (∀ RD, escape l' (s.data.toList.drop b) = RD → (match RD with | .ok l1 r' => wordF m d true q l1 r' | .err a e => .err a e) = R) := Lib.hid (by
              rintro RD rfl
              rw [← HK.out, HD.out, HCONS.out, HNS.out, if_neg (by simp), if_pos h92])
            have HL := Lib.hid (escape_len l')
            refine (escape_calls g s b d (fun j => w.heap.size ≤ j) u7 l' (wr.drewN _) hA hlt hs (hO'.stay ((Chg.refl (fun _ => False) _).drewN _) (fun _ _ e => e)) (fun e => hSg g e rfl) (by omega)).mono ?_
            intro e w1 hpost
            generalize hRD : escape l' (s.data.toList.drop b) = RD at hpost
            have HD2 := Lib.hid (HD1.out RD hRD); clear HD1
            have HRD := Lib.hid hRD; clear hRD
            clear HCONS HK hx
            cases RD with
            | err left code =>
              obtain ⟨k, hk', hl, rfl, hC1⟩ := hpost
              refine ⟨rfl, ?_⟩
              rw [← HD2.out]
              exact ⟨k, hk', hl, rfl, (hC.drewN _).trans hC1 (fun j e hl => e.elim .inl (fun e => absurd (hO'.block e.symm) (by omega)))⟩
            | ok l1 rest =>
              obtain ⟨v2, k, rfl, hk', rfl, ⟨hO2, hat2⟩, hA2, hC2⟩ := hpost
              have hL := HL.out _ _ _ HRD.out
              rw [drop_len, drop_len] at hL
              have hz0 := hC.size
              have hC02 : Chg (fun j => j = g ∨ False) w w1 := (hC.drewN _).trans hC2 (fun j e hl => e.elim .inl (fun e => absurd (hO'.block e.symm) (by omega)))
              have hO2' := hO2.mono (S' := fun j => w.heap.size ≤ j) (fun j h _ => h.elim id (fun h => Nat.le_trans hz0 h))
              clear hO2
              go_wp2
              go_roundg m
              case measure => omega
              case rel => exact ⟨by omega, k, _, hA2, by omega, hk', by omega, hO2', hC02, by omega, HD2.out⟩
          case false =>
            rw [h92] at hq92
            cases h39 : c == 39
            case true =>
              rw [h39] at hq39
              have r0 : (0 : Int) ≤ (b : Int) + 1 := by omega
              have r1 : (b : Int) + 1 ≤ (s.size : Int) := by omega
              have r2 : ((b : Int) + 1).toNat = b + 1 := by omega
              have hwr : IntKind.i64.wrap ((b : Int) + 1) = (b : Int) + 1 := IntWalk.i64_in _ (by omega)
              have hIX : Lib.indexByte (s.extract (b + 1) s.size).data.toList 39 = (match idx 39 (s.data.toList.drop (b + 1)) with | none => (-1 : Int) | some k => (k : Int)) := by
                rw [Lib.extract_to_end, indexByte_idx]
              cases hidx : idx 39 (s.data.toList.drop (b + 1)) with
              | none =>
                rw [hidx] at hIX
                have HIX := Lib.hid hIX; clear hIX
                go_wp2_with (fail)
                go_quiet ((go_at_call 28; exact (ix_q _ _ _ HIX.out).mono (fun _ _ hh => ⟨hh.1, _, hh.2⟩)))
                go_wp2_with (go_at_call 36; refine (fail_calls _ _ _ _).mono ?_; rintro e w1 ⟨rfl, rfl⟩)
                refine ⟨rfl, ?_⟩
                rw [← HK.out, HD.out, HCONS.out, HNS.out, if_neg (by simp), if_neg (by simp [h92]), if_pos h39, hidx, drop_len]
                exact ⟨b, by omega, by omega, rfl, hC.drewN _⟩
              | some k =>
                rw [hidx] at hIX
                have HIX := Lib.hid hIX; clear hIX
                have hkl := idx_lt _ _ _ hidx
                rw [drop_len] at hkl
                have HNEXT : Hid (wordF m d true q (add l' (lit ((s.data.toList.drop (b + 1)).take k) true)) (s.data.toList.drop (b + (k + 2))) = R) := Lib.hid (by
                  rw [← HK.out, HD.out, HCONS.out, HNS.out, if_neg (by simp), if_neg (by simp [h92]), if_pos h39, hidx]
                  simp only [List.drop_drop]
                  rw [show b + 1 + (k + 1) = b + (k + 2) by omega])
                have hx2 := extract_bstr s (b + 1) (b + 1 + k)
                rw [show b + 1 + k - (b + 1) = k by omega] at hx2
                have hTl : ((s.data.toList.drop (b + 1)).take k).length ≤ k := by simp; omega
                revert hTl; revert hx2; revert HNEXT
                generalize (s.data.toList.drop (b + 1)).take k = T
                intro HNEXT hx2 hTl
                clear hidx HD HCONS HK hx HNS
                have r3 : decide ((k : Int) < 0) = false := by simp
                have r5 : (b : Int) + 1 ≤ (b : Int) + 1 + (k : Int) := by omega
                have r6 : (b : Int) + 1 + (k : Int) ≤ (s.size : Int) := by omega
                have r7 : IntKind.i64.wrap ((b : Int) + 1 + (k : Int)) = (b : Int) + 1 + (k : Int) := IntWalk.i64_in _ (by omega)
                have r8 : ((b : Int) + 1 + (k : Int)).toNat = b + 1 + k := by omega
                have r9 : (0 : Int) ≤ (k : Int) := by omega
                have r10 : IntKind.i64.wrap ((b : Int) + ((k : Int) + 2)) = (b : Int) + ((k : Int) + 2) := IntWalk.i64_in _ (by omega)
                go_wp2_with (fail)
                go_quiet ((go_at_call 28; exact (ix_q _ _ _ HIX.out).mono (fun _ _ hh => ⟨hh.1, _, hh.2⟩)))
                go_wp2
                have hne : ¬ some g = u7.ownBlock := fun e => hugb g e.symm rfl
                have r3 : (b : Int) ≤ (b : Int) + 1 := by omega
                have r4 : (b : Int) + 1 ≤ (s.size : Int) := by omega
                go_region_held3 (fun w' => w'.cell? ⟨g, 0, none⟩ = some (.string s) ∧ w'.cell? ⟨g, 1, none⟩ = some (.int .i64 b))
                  (first
                    | go_keep
                    | (go_split_ands; exact ⟨(Chg.of_below hb1').cell (by assumption) (fun e => e), (Chg.of_below hb1').cell (by assumption) (fun e => e)⟩)
                    | (go_split_ands; exact ⟨hC2.cell (by assumption) hne, hC2.cell (by assumption) hne⟩))
                  (first
                    | (go_at_call 38; refine (lit_calls _ _ _).mono ?_; rintro e w1 ⟨rfl, hb1'⟩)
                    | (go_at_call 37; refine (add_calls _ (fun j => w.heap.size ≤ j) (fun _ => False) u7 l' (lit T true) [.int .i64 1, .bool true, .string (bstr (T)), .string ⟨#[]⟩, .slice none 0 0] ((hO'.stay ((Chg.refl (fun _ => False) _).drewN _) (fun _ _ e => e)).stay (Chg.of_below hb1') (fun _ _ e => e)) (lit_rep _ (T) true) (fun _ h => h.elim) (by rw [lit_wt]; omega)).mono ?_; rintro e w2 ⟨v2, rfl, hO2, hC2, hat2⟩))
                have hz0 := hC.size
                have hz1 : wr.heap.size ≤ w1.heap.size := hb1'.size
                have hz2 := hC2.size
                have hA1 : ScanAt w1 g s (b : Nat) d := ScanAt.chg (w := wr.drewN _) hA (Chg.of_below hb1') (fun e => e)
                have hA2 := hA1.chg hC2 hne
                obtain ⟨j0, j1, j2, jf1, _, jgl⟩ := hA2.cells
                have haw := add_wt l' (lit T true)
                rw [lit_wt] at haw
                have hC02 : Chg (fun j => j = g ∨ False) w w2 := ((hC.drewN _).trans (Chg.of_below hb1') (fun _ h _ => h.elim)).trans hC2 (fun j e hl => absurd (hO'.block e.symm) (by omega))
                have hO2' := (hO2.mono (S' := fun j => w.heap.size ≤ j) (fun j h _ => h.elim id (fun h => by omega))).stay (((Chg.refl (· = g) _)).setCell (p := ⟨g, 1, none⟩) (fun _ => rfl) (.int .i64 (b + (k + 2) : Int))) hSg
                have hA3 := hA2.at' (b + (k + 2) : Int)
                have HC03 := hC02.setCell (p := ⟨g, 1, none⟩) (fun _ => .inl rfl) (.int .i64 (b + (k + 2) : Int))
                clear hO2 hA1
                go_wp2
                go_roundg m
                case measure => omega
                case rel => exact ⟨by omega, b + (k + 2), _, hA3, by omega, by omega, by omega, hO2', HC03, by omega, HNEXT.out⟩
            case false =>
              rw [h39] at hq39
              cases h34 : c == 34
              case true =>
                rw [h34] at hq34
                go_wp2_with (fail)
                have HD1 : Hid (∀ RD, doubleF m d ((s.data.toList.drop (b + 1)).length + 1) l' (s.data.toList.drop (b + 1)) = RD → (match RD with | .ok l1 r' => wordF m d true q l1 r' | .err a e => .err a e) = R) := Lib.hid (by
                  rintro RD rfl
                  rw [← HK.out, HD.out, HCONS.out, HNS.out, if_neg (by simp), if_neg (by simp [h92]), if_neg (by simp [h39]), if_pos h34])
                rw [drop_len, show s.size - (b + 1) + 1 = s.size - b by omega] at HD1
                have HL := Lib.hid ((scan_len m).double d (s.size - b) l' (s.data.toList.drop (b + 1)))
                refine ((IH m (by omega)).1 (wr.drewN _) g s b d (fun j => w.heap.size ≤ j) u7 l' hA hlt hs hd (by omega) (hO'.stay ((Chg.refl (fun _ => False) _).drewN _) (fun _ _ e => e)) (fun e => hSg g e rfl) (by omega)).mono ?_
                intro e w1 hpost
                generalize hRD : doubleF m d (s.size - b) l' (s.data.toList.drop (b + 1)) = RD at hpost
                have HD2 := Lib.hid (HD1.out RD hRD); clear HD1
                have HRD := Lib.hid hRD; clear hRD
                clear HCONS HK hx
                cases RD with
                | err left code =>
                  obtain ⟨k, hk', hl, rfl, hC1⟩ := hpost
                  refine ⟨rfl, ?_⟩
                  rw [← HD2.out]
                  exact ⟨k, hk', hl, rfl, (hC.drewN _).trans hC1 (fun j e hl => e.elim .inl (fun e => absurd (hO'.block e.symm) (by omega)))⟩
                | ok l1 rest =>
                  obtain ⟨v2, k, rfl, hk', rfl, hO2, hA2, hC2⟩ := hpost
                  have hL := HL.out _ _ HRD.out
                  rw [drop_len, drop_len] at hL
                  have hz0 := hC.size
                  have hC02 : Chg (fun j => j = g ∨ False) w w1 := (hC.drewN _).trans hC2 (fun j e hl => e.elim .inl (fun e => absurd (hO'.block e.symm) (by omega)))
                  have hO2' := hO2.mono (S' := fun j => w.heap.size ≤ j) (fun j h _ => h.elim id (fun h => Nat.le_trans hz0 h))
                  clear hO2
                  go_wp2
                  go_roundg m
                  case measure => omega
                  case rel => exact ⟨by omega, k, _, hA2, by omega, hk', by omega, hO2', hC02, by omega, HD2.out⟩
              case false =>
                rw [h34] at hq34
                cases h96 : c == 96
                case true =>
                  rw [h96] at hq96
                  go_wp2_with (first | (go_at_call 36; refine (fail_calls _ _ _ _).mono ?_; rintro e w1 ⟨rfl, rfl⟩) | fail)
                  refine ⟨rfl, ?_⟩
                  rw [← HK.out, HD.out, HCONS.out, HNS.out, if_neg (by simp), if_neg (by simp [h92]), if_neg (by simp [h39]), if_neg (by simp [h34]), if_pos h96, drop_len]
                  exact ⟨b, by omega, by omega, rfl, hC.drewN _⟩
                case false =>
                  rw [h96] at hq96
                  cases h36 : c == 36
                  case true =>
                    rw [h36] at hq36
                    go_wp2_with (fail)
                    have HD1 : Hid (∀ RD, dollarF m d q (s.data.toList.drop (b + 1)) = RD → (match RD with | .ok p r' => wordF m d true q (add l' p) r' | .err a e => .err a e) = R) := Lib.hid (by
                      rintro RD rfl
                      rw [← HK.out, HD.out, HCONS.out, HNS.out, if_neg (by simp), if_neg (by simp [h92]), if_neg (by simp [h39]), if_neg (by simp [h34]), if_neg (by simp [h96]), if_pos h36])
                    have HL := Lib.hid ((scan_len m).dollar d q (s.data.toList.drop (b + 1)))
                    refine ((IH m (by omega)).2 (wr.drewN _) g s b d q hA hlt hs hd (by omega)).mono ?_
                    intro e w1 hpost
                    generalize hRD : dollarF m d q (s.data.toList.drop (b + 1)) = RD at hpost HL
                    have HD2 := Lib.hid (HD1.out RD hRD); clear HD1 hRD
                    clear HD HCONS HK hx
                    cases RD with
                    | err left code =>
                      obtain ⟨k, hk', hl, rfl, hC1⟩ := hpost
                      refine ⟨rfl, ?_⟩
                      rw [← HD2.out]
                      exact ⟨k, hk', hl, rfl, (hC.drewN _).trans hC1 (fun _ h _ => h)⟩
                    | ok p rest =>
                      obtain ⟨v1, k, rfl, hk', rfl, ⟨cs, rfl, hrep⟩, hA1, hC1⟩ := hpost
                      have hL := HL.out p _ rfl
                      rw [drop_len, drop_len] at hL
                      have hz0 := hC.size
                      have hO1 : Own w1 (fun j => w.heap.size ≤ j) 35 5 u7 (Part.ds l') := hO'.stay (((Chg.refl (fun j => j = g ∨ False) _).drewN _).trans hC1 (fun _ h _ => h)) (fun k hk e => e.elim (hSg k hk) id)
                      have hub : ∀ j, some j = u7.ownBlock → j < wr.heap.size := fun j e => Own.lt hO' e.symm
                      go_wp2_with fail
                      refine (add_calls w1 _ _ u7 l' p cs hO1 hrep (fun j hj hl => ⟨by simp at hj; omega, fun e => by have := hub j e; simp at hj; omega⟩) (by omega)).mono ?_
                      rintro e w2 ⟨v2, rfl, hO2, hC2, hat2⟩
                      have hz1 : wr.heap.size ≤ w1.heap.size := hC1.size
                      have hz2 := hC2.size
                      have hne : ¬ some g = u7.ownBlock := fun e => hugb g e.symm rfl
                      have haw := add_wt l' p
                      have hC02 : Chg (fun j => j = g ∨ False) w w2 := ((hC.drewN _).trans hC1 (fun _ h _ => h)).trans hC2 (fun j e hl => absurd (hO'.block e.symm) (by omega))
                      have hO2' := hO2.mono (S' := fun j => w.heap.size ≤ j) (fun j h _ => h.elim id (fun h => by omega))
                      have hA2 := hA1.chg hC2 hne
                      clear hub hO1 hrep
                      go_wp2
                      go_roundg m
                      case measure => omega
                      case rel => exact ⟨by omega, k, _, hA2, by omega, hk', by omega, hO2', hC02, by omega, HD2.out⟩
                  case false =>
                    rw [h36] at hq36
                    have HNEXT : Hid (wordF m d true q (add l' (lit [c] q)) (s.data.toList.drop (b + 1)) = R) := Lib.hid (by
                      rw [← HK.out, HD.out, HCONS.out, HNS.out, if_neg (by simp), if_neg (by simp [h92]), if_neg (by simp [h39]), if_neg (by simp [h34]), if_neg (by simp [h96]), if_neg (by simp [h36])])
                    clear HD HCONS HK HNS
                    have hTl : ([c] : Bytes).length = 1 := rfl
                    have hwr : IntKind.i64.wrap ((b : Int) + 1) = (b : Int) + 1 := IntWalk.i64_in _ (by omega)
                    go_wp2_with (fail)
                    have hne : ¬ some g = u7.ownBlock := fun e => hugb g e.symm rfl
                    have r3 : (b : Int) ≤ (b : Int) + 1 := by omega
                    have r4 : (b : Int) + 1 ≤ (s.size : Int) := by omega
                    go_region_held3 (fun w' => w'.cell? ⟨g, 0, none⟩ = some (.string s) ∧ w'.cell? ⟨g, 1, none⟩ = some (.int .i64 b))
                      (first
                        | go_keep
                        | (go_split_ands; exact ⟨(Chg.of_below hb1').cell (by assumption) (fun e => e), (Chg.of_below hb1').cell (by assumption) (fun e => e)⟩)
                        | (go_split_ands; exact ⟨hC2.cell (by assumption) hne, hC2.cell (by assumption) hne⟩))
                      (first
                        | (go_at_call 38; refine (lit_calls _ _ _).mono ?_; rintro e w1 ⟨rfl, hb1'⟩)
                        | (go_at_call 37; refine (add_calls _ (fun j => w.heap.size ≤ j) (fun _ => False) u7 l' (lit [c] q) [.int .i64 1, .bool q, .string (bstr ([c])), .string ⟨#[]⟩, .slice none 0 0] ((hO'.stay ((Chg.refl (fun _ => False) _).drewN _) (fun _ _ e => e)).stay (Chg.of_below hb1') (fun _ _ e => e)) (lit_rep _ ([c]) q) (fun _ h => h.elim) (by rw [lit_wt]; omega)).mono ?_; rintro e w2 ⟨v2, rfl, hO2, hC2, hat2⟩))
                    have hz0 := hC.size
                    have hz1 : wr.heap.size ≤ w1.heap.size := hb1'.size
                    have hz2 := hC2.size
                    have hA1 : ScanAt w1 g s (b : Nat) d := ScanAt.chg (w := wr.drewN _) hA (Chg.of_below hb1') (fun e => e)
                    have hA2 := hA1.chg hC2 hne
                    obtain ⟨j0, j1, j2, jf1, _, jgl⟩ := hA2.cells
                    have haw := add_wt l' (lit [c] q)
                    rw [lit_wt] at haw
                    have hC02 : Chg (fun j => j = g ∨ False) w w2 := ((hC.drewN _).trans (Chg.of_below hb1') (fun _ h _ => h.elim)).trans hC2 (fun j e hl => absurd (hO'.block e.symm) (by omega))
                    have hO2' := (hO2.mono (S' := fun j => w.heap.size ≤ j) (fun j h _ => h.elim id (fun h => by omega))).stay (((Chg.refl (· = g) _)).setCell (p := ⟨g, 1, none⟩) (fun _ => rfl) (.int .i64 (b + 1 : Int))) hSg
                    have hA3 := hA2.at' (b + 1 : Int)
                    have HC03 := hC02.setCell (p := ⟨g, 1, none⟩) (fun _ => .inl rfl) (.int .i64 (b + 1 : Int))
                    clear hO2 hA1
                    go_wp2
                    go_roundg m
                    case measure => omega
                    case rel => exact ⟨by omega, b + 1, _, hA3, by omega, by omega, by omega, hO2', HC03, by omega, HNEXT.out⟩
      case false =>
        obtain ⟨m, rfl⟩ : ∃ m, gk = m + 1 := ⟨gk - 1, by omega⟩
        have HD := Lib.hid (byte_drop s b hlt)
        have HCONS := Lib.hid (word_cons m d false q l' s[b] (s.data.toList.drop (b + 1)))
        have hx := extract_one s b hlt
        have q0 : (0 : Int) ≤ (b : Int) := by omega
        have q1 : (b : Int) < (s.size : Int) := by omega
        have hq125 : ((s[b].toNat : Int) == 125) = (s[b] == 125) := byte_eqn s[b] 125 (by decide)
        have hq39 : ((s[b].toNat : Int) == 39) = (s[b] == 39) := byte_eqn s[b] 39 (by decide)
        have hq34 : ((s[b].toNat : Int) == 34) = (s[b] == 34) := byte_eqn s[b] 34 (by decide)
        have hq96 : ((s[b].toNat : Int) == 96) = (s[b] == 96) := byte_eqn s[b] 96 (by decide)
        have hq36 : ((s[b].toNat : Int) == 36) = (s[b] == 36) := byte_eqn s[b] 36 (by decide)
        have hq92 : ((s[b].toNat : Int) == 92) = (s[b] == 92) := byte_eqn s[b] 92 (by decide)
        go_wp2
        go_quiet (fail)
        go_wp2
        go_quiet (fail)
        generalize s[b] = c at *
        have HSTOP : Hid (((false && c == 125) || (!false && metaB c)) = (metaB c)) := Lib.hid (by simp)
        cases hstop : (metaB c)
        case true =>
          skip
          have HR1 : Hid (R = .ok l' (s.data.toList.drop b)) := Lib.hid (by
            rw [← HK.out, HD.out, HCONS.out, HSTOP.out, hstop, if_pos rfl])
          go_wp2_with ((go_at_call 13; refine (meta_calls _ _).mono ?_; rintro e w' ⟨rfl, rfl⟩; rw [hstop]))
          go_ret
          rw [HR1.out]
          exact ⟨u7, b, rfl, by omega, rfl, (hO'.stay ((Chg.refl (fun _ => False) _).drewN _) (fun _ _ e => e)).mono (fun j h _ => .inr h), hA, hC.drewN _⟩
        case false =>
          skip
          have HNS : Hid (((false && c == 125) || (!false && metaB c)) = false) := Lib.hid (by rw [HSTOP.out, hstop])
          clear HSTOP
          cases h92 : c == 92
          case true =>
            rw [h92] at hq92
            go_wp2_with ((go_at_call 13; refine (meta_calls _ _).mono ?_; rintro e w' ⟨rfl, rfl⟩; rw [hstop]))
            have HD1 : Hid (∀ RD, escape l' (s.data.toList.drop b) = RD → (match RD with | .ok l1 r' => wordF m d false q l1 r' | .err a e => .err a e) = R) := Lib.hid (by
              rintro RD rfl
              rw [← HK.out, HD.out, HCONS.out, HNS.out, if_neg (by simp), if_pos h92])
            have HL := Lib.hid (escape_len l')
            refine (escape_calls g s b d (fun j => w.heap.size ≤ j) u7 l' (wr.drewN _) hA hlt hs (hO'.stay ((Chg.refl (fun _ => False) _).drewN _) (fun _ _ e => e)) (fun e => hSg g e rfl) (by omega)).mono ?_
            intro e w1 hpost
            generalize hRD : escape l' (s.data.toList.drop b) = RD at hpost
            have HD2 := Lib.hid (HD1.out RD hRD); clear HD1
            have HRD := Lib.hid hRD; clear hRD
            clear HCONS HK hx
            cases RD with
            | err left code =>
              obtain ⟨k, hk', hl, rfl, hC1⟩ := hpost
              refine ⟨rfl, ?_⟩
              rw [← HD2.out]
              exact ⟨k, hk', hl, rfl, (hC.drewN _).trans hC1 (fun j e hl => e.elim .inl (fun e => absurd (hO'.block e.symm) (by omega)))⟩
            | ok l1 rest =>
              obtain ⟨v2, k, rfl, hk', rfl, ⟨hO2, hat2⟩, hA2, hC2⟩ := hpost
              have hL := HL.out _ _ _ HRD.out
              rw [drop_len, drop_len] at hL
              have hz0 := hC.size
              have hC02 : Chg (fun j => j = g ∨ False) w w1 := (hC.drewN _).trans hC2 (fun j e hl => e.elim .inl (fun e => absurd (hO'.block e.symm) (by omega)))
              have hO2' := hO2.mono (S' := fun j => w.heap.size ≤ j) (fun j h _ => h.elim id (fun h => Nat.le_trans hz0 h))
              clear hO2
              go_wp2
              go_roundg m
              case measure => omega
              case rel => exact ⟨by omega, k, _, hA2, by omega, hk', by omega, hO2', hC02, by omega, HD2.out⟩
          case false =>
            rw [h92] at hq92
            cases h39 : c == 39
            case true =>
              rw [h39] at hq39
              have r0 : (0 : Int) ≤ (b : Int) + 1 := by omega
              have r1 : (b : Int) + 1 ≤ (s.size : Int) := by omega
              have r2 : ((b : Int) + 1).toNat = b + 1 := by omega
              have hwr : IntKind.i64.wrap ((b : Int) + 1) = (b : Int) + 1 := IntWalk.i64_in _ (by omega)
              have hIX : Lib.indexByte (s.extract (b + 1) s.size).data.toList 39 = (match idx 39 (s.data.toList.drop (b + 1)) with | none => (-1 : Int) | some k => (k : Int)) := by
                rw [Lib.extract_to_end, indexByte_idx]
              cases hidx : idx 39 (s.data.toList.drop (b + 1)) with
              | none =>
                rw [hidx] at hIX
                have HIX := Lib.hid hIX; clear hIX
                go_wp2_with ((go_at_call 13; refine (meta_calls _ _).mono ?_; rintro e w' ⟨rfl, rfl⟩; rw [hstop]))
                go_quiet ((go_at_call 28; exact (ix_q _ _ _ HIX.out).mono (fun _ _ hh => ⟨hh.1, _, hh.2⟩)))
                go_wp2_with (go_at_call 36; refine (fail_calls _ _ _ _).mono ?_; rintro e w1 ⟨rfl, rfl⟩)
                refine ⟨rfl, ?_⟩
                rw [← HK.out, HD.out, HCONS.out, HNS.out, if_neg (by simp), if_neg (by simp [h92]), if_pos h39, hidx, drop_len]
                exact ⟨b, by omega, by omega, rfl, hC.drewN _⟩
              | some k =>
                rw [hidx] at hIX
                have HIX := Lib.hid hIX; clear hIX
                have hkl := idx_lt _ _ _ hidx
                rw [drop_len] at hkl
                have HNEXT : Hid (wordF m d false q (add l' (lit ((s.data.toList.drop (b + 1)).take k) true)) (s.data.toList.drop (b + (k + 2))) = R) := Lib.hid (by
                  rw [← HK.out, HD.out, HCONS.out, HNS.out, if_neg (by simp), if_neg (by simp [h92]), if_pos h39, hidx]
                  simp only [List.drop_drop]
                  rw [show b + 1 + (k + 1) = b + (k + 2) by omega])
                have hx2 := extract_bstr s (b + 1) (b + 1 + k)
                rw [show b + 1 + k - (b + 1) = k by omega] at hx2
                have hTl : ((s.data.toList.drop (b + 1)).take k).length ≤ k := by simp; omega
                revert hTl; revert hx2; revert HNEXT
                generalize (s.data.toList.drop (b + 1)).take k = T
                intro HNEXT hx2 hTl
                clear hidx HD HCONS HK hx HNS
                have r3 : decide ((k : Int) < 0) = false := by simp
                have r5 : (b : Int) + 1 ≤ (b : Int) + 1 + (k : Int) := by omega
                have r6 : (b : Int) + 1 + (k : Int) ≤ (s.size : Int) := by omega
                have r7 : IntKind.i64.wrap ((b : Int) + 1 + (k : Int)) = (b : Int) + 1 + (k : Int) := IntWalk.i64_in _ (by omega)
                have r8 : ((b : Int) + 1 + (k : Int)).toNat = b + 1 + k := by omega
                have r9 : (0 : Int) ≤ (k : Int) := by omega
                have r10 : IntKind.i64.wrap ((b : Int) + ((k : Int) + 2)) = (b : Int) + ((k : Int) + 2) := IntWalk.i64_in _ (by omega)
                go_wp2_with ((go_at_call 13; refine (meta_calls _ _).mono ?_; rintro e w' ⟨rfl, rfl⟩; rw [hstop]))
                go_quiet ((go_at_call 28; exact (ix_q _ _ _ HIX.out).mono (fun _ _ hh => ⟨hh.1, _, hh.2⟩)))
                go_wp2
                have hne : ¬ some g = u7.ownBlock := fun e => hugb g e.symm rfl
                have r3 : (b : Int) ≤ (b : Int) + 1 := by omega
                have r4 : (b : Int) + 1 ≤ (s.size : Int) := by omega
                go_region_held3 (fun w' => w'.cell? ⟨g, 0, none⟩ = some (.string s) ∧ w'.cell? ⟨g, 1, none⟩ = some (.int .i64 b))
                  (first
                    | go_keep
                    | (go_split_ands; exact ⟨(Chg.of_below hb1').cell (by assumption) (fun e => e), (Chg.of_below hb1').cell (by assumption) (fun e => e)⟩)
                    | (go_split_ands; exact ⟨hC2.cell (by assumption) hne, hC2.cell (by assumption) hne⟩))
                  (first
                    | (go_at_call 38; refine (lit_calls _ _ _).mono ?_; rintro e w1 ⟨rfl, hb1'⟩)
                    | (go_at_call 37; refine (add_calls _ (fun j => w.heap.size ≤ j) (fun _ => False) u7 l' (lit T true) [.int .i64 1, .bool true, .string (bstr (T)), .string ⟨#[]⟩, .slice none 0 0] ((hO'.stay ((Chg.refl (fun _ => False) _).drewN _) (fun _ _ e => e)).stay (Chg.of_below hb1') (fun _ _ e => e)) (lit_rep _ (T) true) (fun _ h => h.elim) (by rw [lit_wt]; omega)).mono ?_; rintro e w2 ⟨v2, rfl, hO2, hC2, hat2⟩))
                have hz0 := hC.size
                have hz1 : wr.heap.size ≤ w1.heap.size := hb1'.size
                have hz2 := hC2.size
                have hA1 : ScanAt w1 g s (b : Nat) d := ScanAt.chg (w := wr.drewN _) hA (Chg.of_below hb1') (fun e => e)
                have hA2 := hA1.chg hC2 hne
                obtain ⟨j0, j1, j2, jf1, _, jgl⟩ := hA2.cells
                have haw := add_wt l' (lit T true)
                rw [lit_wt] at haw
                have hC02 : Chg (fun j => j = g ∨ False) w w2 := ((hC.drewN _).trans (Chg.of_below hb1') (fun _ h _ => h.elim)).trans hC2 (fun j e hl => absurd (hO'.block e.symm) (by omega))
                have hO2' := (hO2.mono (S' := fun j => w.heap.size ≤ j) (fun j h _ => h.elim id (fun h => by omega))).stay (((Chg.refl (· = g) _)).setCell (p := ⟨g, 1, none⟩) (fun _ => rfl) (.int .i64 (b + (k + 2) : Int))) hSg
                have hA3 := hA2.at' (b + (k + 2) : Int)
                have HC03 := hC02.setCell (p := ⟨g, 1, none⟩) (fun _ => .inl rfl) (.int .i64 (b + (k + 2) : Int))
                clear hO2 hA1
                go_wp2
                go_roundg m
                case measure => omega
                case rel => exact ⟨by omega, b + (k + 2), _, hA3, by omega, by omega, by omega, hO2', HC03, by omega, HNEXT.out⟩
            case false =>
              rw [h39] at hq39
              cases h34 : c == 34
              case true =>
                rw [h34] at hq34
                go_wp2_with ((go_at_call 13; refine (meta_calls _ _).mono ?_; rintro e w' ⟨rfl, rfl⟩; rw [hstop]))
                have HD1 : Hid (∀ RD, doubleF m d ((s.data.toList.drop (b + 1)).length + 1) l' (s.data.toList.drop (b + 1)) = RD → (match RD with | .ok l1 r' => wordF m d false q l1 r' | .err a e => .err a e) = R) := Lib.hid (by
                  rintro RD rfl
                  rw [← HK.out, HD.out, HCONS.out, HNS.out, if_neg (by simp), if_neg (by simp [h92]), if_neg (by simp [h39]), if_pos h34])
                rw [drop_len, show s.size - (b + 1) + 1 = s.size - b by omega] at HD1
                have HL := Lib.hid ((scan_len m).double d (s.size - b) l' (s.data.toList.drop (b + 1)))
                refine ((IH m (by omega)).1 (wr.drewN _) g s b d (fun j => w.heap.size ≤ j) u7 l' hA hlt hs hd (by omega) (hO'.stay ((Chg.refl (fun _ => False) _).drewN _) (fun _ _ e => e)) (fun e => hSg g e rfl) (by omega)).mono ?_
                intro e w1 hpost
                generalize hRD : doubleF m d (s.size - b) l' (s.data.toList.drop (b + 1)) = RD at hpost
                have HD2 := Lib.hid (HD1.out RD hRD); clear HD1
                have HRD := Lib.hid hRD; clear hRD
                clear HCONS HK hx
                cases RD with
                | err left code =>
                  obtain ⟨k, hk', hl, rfl, hC1⟩ := hpost
                  refine ⟨rfl, ?_⟩
                  rw [← HD2.out]
                  exact ⟨k, hk', hl, rfl, (hC.drewN _).trans hC1 (fun j e hl => e.elim .inl (fun e => absurd (hO'.block e.symm) (by omega)))⟩
                | ok l1 rest =>
                  obtain ⟨v2, k, rfl, hk', rfl, hO2, hA2, hC2⟩ := hpost
                  have hL := HL.out _ _ HRD.out
                  rw [drop_len, drop_len] at hL
                  have hz0 := hC.size
                  have hC02 : Chg (fun j => j = g ∨ False) w w1 := (hC.drewN _).trans hC2 (fun j e hl => e.elim .inl (fun e => absurd (hO'.block e.symm) (by omega)))
                  have hO2' := hO2.mono (S' := fun j => w.heap.size ≤ j) (fun j h _ => h.elim id (fun h => Nat.le_trans hz0 h))
                  clear hO2
                  go_wp2
                  go_roundg m
                  case measure => omega
                  case rel => exact ⟨by omega, k, _, hA2, by omega, hk', by omega, hO2', hC02, by omega, HD2.out⟩
              case false =>
                rw [h34] at hq34
                cases h96 : c == 96
                case true =>
                  rw [h96] at hq96
                  go_wp2_with (first | (go_at_call 36; refine (fail_calls _ _ _ _).mono ?_; rintro e w1 ⟨rfl, rfl⟩) | (go_at_call 13; refine (meta_calls _ _).mono ?_; rintro e w' ⟨rfl, rfl⟩; rw [hstop]))
                  refine ⟨rfl, ?_⟩
                  rw [← HK.out, HD.out, HCONS.out, HNS.out, if_neg (by simp), if_neg (by simp [h92]), if_neg (by simp [h39]), if_neg (by simp [h34]), if_pos h96, drop_len]
                  exact ⟨b, by omega, by omega, rfl, hC.drewN _⟩
                case false =>
                  rw [h96] at hq96
                  cases h36 : c == 36
                  case true =>
                    rw [h36] at hq36
                    go_wp2_with ((go_at_call 13; refine (meta_calls _ _).mono ?_; rintro e w' ⟨rfl, rfl⟩; rw [hstop]))
                    have HD1 : Hid (∀ RD, dollarF m d q (s.data.toList.drop (b + 1)) = RD → (match RD with | .ok p r' => wordF m d false q (add l' p) r' | .err a e => .err a e) = R) := Lib.hid (by
                      rintro RD rfl
                      rw [← HK.out, HD.out, HCONS.out, HNS.out, if_neg (by simp), if_neg (by simp [h92]), if_neg (by simp [h39]), if_neg (by simp [h34]), if_neg (by simp [h96]), if_pos h36])
                    have HL := Lib.hid ((scan_len m).dollar d q (s.data.toList.drop (b + 1)))
                    refine ((IH m (by omega)).2 (wr.drewN _) g s b d q hA hlt hs hd (by omega)).mono ?_
                    intro e w1 hpost
                    generalize hRD : dollarF m d q (s.data.toList.drop (b + 1)) = RD at hpost HL
                    have HD2 := Lib.hid (HD1.out RD hRD); clear HD1 hRD
                    clear HD HCONS HK hx
                    cases RD with
                    | err left code =>
                      obtain ⟨k, hk', hl, rfl, hC1⟩ := hpost
                      refine ⟨rfl, ?_⟩
                      rw [← HD2.out]
                      exact ⟨k, hk', hl, rfl, (hC.drewN _).trans hC1 (fun _ h _ => h)⟩
                    | ok p rest =>
                      obtain ⟨v1, k, rfl, hk', rfl, ⟨cs, rfl, hrep⟩, hA1, hC1⟩ := hpost
                      have hL := HL.out p _ rfl
                      rw [drop_len, drop_len] at hL
                      have hz0 := hC.size
                      have hO1 : Own w1 (fun j => w.heap.size ≤ j) 35 5 u7 (Part.ds l') := hO'.stay (((Chg.refl (fun j => j = g ∨ False) _).drewN _).trans hC1 (fun _ h _ => h)) (fun k hk e => e.elim (hSg k hk) id)
                      have hub : ∀ j, some j = u7.ownBlock → j < wr.heap.size := fun j e => Own.lt hO' e.symm
                      go_wp2_with fail
                      refine (add_calls w1 _ _ u7 l' p cs hO1 hrep (fun j hj hl => ⟨by simp at hj; omega, fun e => by have := hub j e; simp at hj; omega⟩) (by omega)).mono ?_
                      rintro e w2 ⟨v2, rfl, hO2, hC2, hat2⟩
                      have hz1 : wr.heap.size ≤ w1.heap.size := hC1.size
                      have hz2 := hC2.size
                      have hne : ¬ some g = u7.ownBlock := fun e => hugb g e.symm rfl
                      have haw := add_wt l' p
                      have hC02 : Chg (fun j => j = g ∨ False) w w2 := ((hC.drewN _).trans hC1 (fun _ h _ => h)).trans hC2 (fun j e hl => absurd (hO'.block e.symm) (by omega))
                      have hO2' := hO2.mono (S' := fun j => w.heap.size ≤ j) (fun j h _ => h.elim id (fun h => by omega))
                      have hA2 := hA1.chg hC2 hne
                      clear hub hO1 hrep
                      go_wp2
                      go_roundg m
                      case measure => omega
                      case rel => exact ⟨by omega, k, _, hA2, by omega, hk', by omega, hO2', hC02, by omega, HD2.out⟩
                  case false =>
                    rw [h36] at hq36
                    have HNEXT : Hid (wordF m d false q (add l' (lit [c] q)) (s.data.toList.drop (b + 1)) = R) := Lib.hid (by
                      rw [← HK.out, HD.out, HCONS.out, HNS.out, if_neg (by simp), if_neg (by simp [h92]), if_neg (by simp [h39]), if_neg (by simp [h34]), if_neg (by simp [h96]), if_neg (by simp [h36])])
                    clear HD HCONS HK HNS
                    have hTl : ([c] : Bytes).length = 1 := rfl
                    have hwr : IntKind.i64.wrap ((b : Int) + 1) = (b : Int) + 1 := IntWalk.i64_in _ (by omega)
                    go_wp2_with ((go_at_call 13; refine (meta_calls _ _).mono ?_; rintro e w' ⟨rfl, rfl⟩; rw [hstop]))
                    have hne : ¬ some g = u7.ownBlock := fun e => hugb g e.symm rfl
                    have r3 : (b : Int) ≤ (b : Int) + 1 := by omega
                    have r4 : (b : Int) + 1 ≤ (s.size : Int) := by omega
                    go_region_held3 (fun w' => w'.cell? ⟨g, 0, none⟩ = some (.string s) ∧ w'.cell? ⟨g, 1, none⟩ = some (.int .i64 b))
                      (first
                        | go_keep
                        | (go_split_ands; exact ⟨(Chg.of_below hb1').cell (by assumption) (fun e => e), (Chg.of_below hb1').cell (by assumption) (fun e => e)⟩)
                        | (go_split_ands; exact ⟨hC2.cell (by assumption) hne, hC2.cell (by assumption) hne⟩))
                      (first
                        | (go_at_call 38; refine (lit_calls _ _ _).mono ?_; rintro e w1 ⟨rfl, hb1'⟩)
                        | (go_at_call 37; refine (add_calls _ (fun j => w.heap.size ≤ j) (fun _ => False) u7 l' (lit [c] q) [.int .i64 1, .bool q, .string (bstr ([c])), .string ⟨#[]⟩, .slice none 0 0] ((hO'.stay ((Chg.refl (fun _ => False) _).drewN _) (fun _ _ e => e)).stay (Chg.of_below hb1') (fun _ _ e => e)) (lit_rep _ ([c]) q) (fun _ h => h.elim) (by rw [lit_wt]; omega)).mono ?_; rintro e w2 ⟨v2, rfl, hO2, hC2, hat2⟩))
                    have hz0 := hC.size
                    have hz1 : wr.heap.size ≤ w1.heap.size := hb1'.size
                    have hz2 := hC2.size
                    have hA1 : ScanAt w1 g s (b : Nat) d := ScanAt.chg (w := wr.drewN _) hA (Chg.of_below hb1') (fun e => e)
                    have hA2 := hA1.chg hC2 hne
                    obtain ⟨j0, j1, j2, jf1, _, jgl⟩ := hA2.cells
                    have haw := add_wt l' (lit [c] q)
                    rw [lit_wt] at haw
                    have hC02 : Chg (fun j => j = g ∨ False) w w2 := ((hC.drewN _).trans (Chg.of_below hb1') (fun _ h _ => h.elim)).trans hC2 (fun j e hl => absurd (hO'.block e.symm) (by omega))
                    have hO2' := (hO2.mono (S' := fun j => w.heap.size ≤ j) (fun j h _ => h.elim id (fun h => by omega))).stay (((Chg.refl (· = g) _)).setCell (p := ⟨g, 1, none⟩) (fun _ => rfl) (.int .i64 (b + 1 : Int))) hSg
                    have hA3 := hA2.at' (b + 1 : Int)
                    have HC03 := hC02.setCell (p := ⟨g, 1, none⟩) (fun _ => .inl rfl) (.int .i64 (b + 1 : Int))
                    clear hO2 hA1
                    go_wp2
                    go_roundg m
                    case measure => omega
                    case rel => exact ⟨by omega, b + 1, _, hA3, by omega, by omega, by omega, hO2', HC03, by omega, HNEXT.out⟩
    · have q1 : decide ((b : Int) < (s.size : Int)) = false := by simp; omega
      obtain ⟨m, rfl⟩ : ∃ m, gk = m + 1 := ⟨gk - 1, by omega⟩
      have HR1 : Hid (R = .ok l' (s.data.toList.drop b)) := Lib.hid (by rw [← HK.out, drop_end s b hlt, word_nil])
      go_wp2
      go_quiet (fail)
      go_wp2
      go_ret
      rw [HR1.out]
      exact ⟨u7, b, rfl, by omega, rfl, (hO'.stay ((Chg.refl (fun _ => False) _).drewN _) (fun _ _ e => e)).mono (fun j h _ => .inr h), hA, hC.drewN _⟩
end Go.Proofs.Ytdfnkmiabmjolaa
