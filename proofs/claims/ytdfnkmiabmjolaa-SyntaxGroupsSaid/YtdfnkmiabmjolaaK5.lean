/- Walks of package word: double quotes. -/
import Derived.Test.YtdfnkmiabmjolaaK4
import Derived.Deep.RegionHeld3
namespace Go.Proofs.Ytdfnkmiabmjolaa
open Go.RowKit
set_option linter.unusedVariables false
set_option linter.unusedSimpArgs false

theorem double_nil (n d F : Nat) (l : List Part) : doubleF (n + 1) d F l [] = .err F 60 := by rw [doubleF]
theorem double_cons (n d F : Nat) (l : List Part) (c : UInt8) (r : Bytes) : doubleF (n + 1) d F l (c :: r) =
    if c == 34 then .ok (if r.length + 2 == F then add l (lit [] true) else l) r
    else if c == 96 then .err (r.length + 1) 61
    else if c == 36 then (match dollarF n d true r with | .ok p r' => doubleF n d F (add l p) r' | .err a e => .err a e)
    else if c == 92 && dblEsc r then (match escape l (c :: r) with | .ok l' r' => doubleF n d F l' r' | .err a e => .err a e)
    else doubleF n d F (add l (lit [c] true)) r := by rw [doubleF]; rfl

/-- What holds at the head of a round, in double quotes. -/
def DoubleRel (w : World) (g : Nat) (s : ByteArray) (a d : Nat) (S : Nat → Prop) (v0 : Value) (R : Rs (List Part)) (k : Nat) (v : Value) (wr : World) (b : Nat) (l : List Part) : Prop :=
  ScanAt wr g s b d ∧ a + 1 ≤ b ∧ b ≤ s.size ∧ 4 * (s.size - b) + 2 ≤ k ∧ Own wr (fun j => S j ∨ w.heap.size ≤ j) 35 5 v (Part.ds l) ∧ AtOr v0 v w ∧ Chg (fun j => j = g ∨ some j = v0.ownBlock) w wr ∧
    Part.wts l + 2 * (s.size - b) ≤ 100000 ∧ doubleF k d (s.size - a) l (s.data.toList.drop b) = R

set_option maxRecDepth 100000 in
set_option maxHeartbeats 8000000 in
theorem double_said (n : Nat) (IH : ∀ m, m < n → DollarSaid m) : DoubleSaid n := by
  intro w g s a d S v l h ha hs hd hf hO hg hw
  generalize hR : doubleF n d (s.size - a) l (s.data.toList.drop (a + 1)) = R
  have HR := Lib.hid hR; clear hR
  obtain ⟨h0, h1, h2, f1, _, hgl⟩ := h.cells
  obtain ⟨A0, c0, hv0, _, _⟩ := hO.form
  have HV := Lib.hid hv0; clear hv0
  have hgw := hgl
  have hb0 : ∀ j, v.ownBlock = some j → j ≠ g := fun j hj e => hg (e ▸ hO.block hj)
  go_enter Try.func39, Try.ntmps39
  go_wp2
  go_loopg [1] n (fun k v' wr => k ≤ n ∧ ∃ b l', DoubleRel w g s a d S v R k v' wr b l')
  case atStart =>
    exact ⟨Nat.le_refl _, a + 1, l, h.at' _, by omega, by omega, by omega, (hO.stay ((Chg.refl (· = g) _).setCell (fun _ => rfl) _) (by rintro k hk rfl; exact hg hk)).mono (fun _ h _ => .inl h), .inl rfl, (Chg.refl _ _).setCell (fun _ => .inl rfl) _, by omega, HR.out⟩
  case round =>
    obtain ⟨hkn, b, l', hA, hb1, hb2, hk, hO', hat, hC, hwt, HK0⟩ := hrel
    have HK := Lib.hid HK0; clear HK0
    obtain ⟨k0, k1, k2, kf1, _, kgl⟩ := hA.cells
    clear h0 h1 h2 f1 hgl
    have hSg : ∀ k, (S k ∨ w.heap.size ≤ k) → ¬ k = g := by
      rintro k (hk | hk) rfl
      · exact hg hk
      · exact absurd hgw (by omega)
    have hugb : ∀ j, u1.ownBlock = some j → j ≠ g := fun j hj => hSg j (hO'.block hj)
    by_cases hlt : b < s.size
    · obtain ⟨m, rfl⟩ : ∃ m, gk = m + 1 := ⟨gk - 1, by omega⟩
      have HD := Lib.hid (byte_drop s b hlt)
      have HCONS := Lib.hid (double_cons m d (s.size - a) l' s[b] (s.data.toList.drop (b + 1)))
      have hx := extract_one s b hlt
      have q0 : (0 : Int) ≤ (b : Int) := by omega
      have q1 : (b : Int) < (s.size : Int) := by omega
      have hq34 : ((s[b].toNat : Int) == 34) = (s[b] == 34) := byte_eqn s[b] 34 (by decide)
      have hq96 : ((s[b].toNat : Int) == 96) = (s[b] == 96) := byte_eqn s[b] 96 (by decide)
      have hq36 : ((s[b].toNat : Int) == 36) = (s[b] == 36) := byte_eqn s[b] 36 (by decide)
      have hq92 : ((s[b].toNat : Int) == 92) = (s[b] == 92) := byte_eqn s[b] 92 (by decide)
      go_wp2
      go_quiet (fail)
      go_wp2
      go_quiet (fail)
      generalize s[b] = c at *
      cases h34 : c == 34
      case true =>
        rw [h34] at hq34
        have HR1 : Hid (R = .ok (if b == a + 1 then add l' (lit [] true) else l') (s.data.toList.drop (b + 1))) := Lib.hid (by
          rw [← HK.out, HD.out, HCONS.out, if_pos h34, drop_len]
          by_cases e : b = a + 1
          · rw [if_pos (by simp; omega), if_pos (by simp [e])]
          · rw [if_neg (by simp; omega), if_neg (by simp [e])])
        by_cases hba : b = a + 1
        · have e1 : ((b : Int) + 1 == (a : Int) + 2) = true := by simp; omega
          have HBA := Lib.hid hba; clear hba
          go_wp2_with fail
          refine (lit_calls _ _ _).mono ?_
          rintro e w1 ⟨rfl, hb1'⟩
          go_wp2_with fail
          have hC1 := (((hC.drewN _).setCell (fun _ => .inl rfl) _).trans (Chg.of_below hb1') (fun _ h _ => h.elim))
          have hA1 : ScanAt w1 g s ((b : Int) + 1) d := ScanAt.chg (ScanAt.at' (w := wr.drewN _) hA _) (Chg.of_below hb1') (fun e => e)
          have hO1 : Own w1 (fun j => S j ∨ w.heap.size ≤ j) 35 5 u1 (Part.ds l') := (hO'.stay (((Chg.refl (· = g) _).drewN _).setCell (fun _ => rfl) _) hSg).stay (Chg.of_below hb1') (fun _ _ e => e)
          refine (add_calls w1 _ (fun _ => False) u1 l' (lit [] true) [.int .i64 1, .bool true, .string ⟨#[]⟩, .string ⟨#[]⟩, .slice none 0 0] hO1 (lit_rep _ [] true) (fun _ h => h.elim) (by rw [lit_wt]; simp; omega)).mono ?_
          rintro e w2 ⟨v2, rfl, hO2, hC2, hat2⟩
          have hz1 := hC1.size
          have hz2 := hC2.size
          have hne : ¬ some g = u1.ownBlock := fun e => hugb g e.symm rfl
          go_wp2
          go_ret
          rw [HR1.out, if_pos (by simp [HBA.out])]
          refine ⟨v2, b + 1, rfl, by omega, rfl, hO2.mono (fun j h _ => h.elim id (fun h => .inr (by omega))), hA1.chg hC2 hne, hC1.trans hC2 (fun j e hl => ?_)⟩
          rcases hat with h | ⟨b', h, hle⟩
          · exact .inr (e.trans h)
          · rw [h] at e; cases e; omega
        · have e1 : ((b : Int) + 1 == (a : Int) + 2) = false := by simp; omega
          go_wp2
          go_ret
          rw [HR1.out, if_neg (by simp [hba])]
          exact ⟨u1, b + 1, rfl, by omega, rfl, hO'.stay (((Chg.refl (· = g) _).drewN _).setCell (fun _ => rfl) _) hSg, hA.at' _, (hC.drewN _).setCell (fun _ => .inl rfl) _⟩
      case false =>
        rw [h34] at hq34
        cases h96 : c == 96
        case true =>
          rw [h96] at hq96
          go_wp2_with (go_at_call 36; refine (fail_calls _ _ _ _).mono ?_; rintro e w1 ⟨rfl, rfl⟩)
          refine ⟨rfl, ?_⟩
          rw [← HK.out, HD.out, HCONS.out, if_neg (by simp [h34]), if_pos h96, drop_len]
          exact ⟨b, by omega, by omega, rfl, hC.drewN _⟩
        case false =>
          rw [h96] at hq96
          cases h36 : c == 36
          case true =>
            rw [h36] at hq36
            go_wp2_with fail
            have HD1 : Hid (∀ RD, dollarF m d true (s.data.toList.drop (b + 1)) = RD → (match RD with | .ok p r' => doubleF m d (s.size - a) (add l' p) r' | .err a e => .err a e) = R) := Lib.hid (by
              rintro RD rfl
              rw [← HK.out, HD.out, HCONS.out, if_neg (by simp [h34]), if_neg (by simp [h96]), if_pos h36])
            have HL := Lib.hid ((scan_len m).dollar d true (s.data.toList.drop (b + 1)))
            refine (IH m (by omega) (wr.drewN _) g s b d true hA hlt hs hd (by omega)).mono ?_
            intro e w1 hpost
            generalize hRD : dollarF m d true (s.data.toList.drop (b + 1)) = RD at hpost HL
            have HD2 := Lib.hid (HD1.out RD hRD); clear HD1 hRD
            cases RD with
            | err left code =>
              obtain ⟨k, hk', hl, rfl, hC1⟩ := hpost
              refine ⟨rfl, ?_⟩
              rw [← HD2.out]
              exact ⟨k, hk', hl, rfl, (hC.drewN _).trans hC1 (fun _ h _ => h.elim .inl (fun h => h.elim))⟩
            | ok p rest =>
              obtain ⟨v1, k, rfl, hk', rfl, ⟨cs, rfl, hrep⟩, hA1, hC1⟩ := hpost
              have hL := HL.out p _ rfl
              rw [drop_len, drop_len] at hL
              have hz0 := hC.size
              have hO1 : Own w1 (fun j => S j ∨ w.heap.size ≤ j) 35 5 u1 (Part.ds l') := hO'.stay (((Chg.refl (fun j => j = g ∨ False) _).drewN _).trans hC1 (fun _ h _ => h)) (fun k hk e => e.elim (hSg k hk) id)
              have hub : ∀ j, some j = u1.ownBlock → j < wr.heap.size := fun j e => Own.lt hO' e.symm
              go_wp2_with fail
              refine (add_calls w1 _ _ u1 l' p cs hO1 hrep (fun j hj hl => ⟨.inr (by simp at hj; omega), fun e => by have := hub j e; simp at hj; omega⟩) (by omega)).mono ?_
              rintro e w2 ⟨v2, rfl, hO2, hC2, hat2⟩
              have hz1 : wr.heap.size ≤ w1.heap.size := hC1.size
              have hz2 := hC2.size
              have hne : ¬ some g = u1.ownBlock := fun e => hugb g e.symm rfl
              have haw := add_wt l' p
              have hC02 : Chg (fun j => j = g ∨ some j = v.ownBlock) w w2 := ((hC.drewN _).trans hC1 (fun _ h _ => h.elim .inl (fun h => h.elim))).trans hC2 (fun j e hl => by
                rcases hat with h | ⟨b', h, hle⟩
                · exact .inr (e.trans h)
                · rw [h] at e; cases e; omega)
              have hat' : AtOr v v2 w := by
                rcases hat2 with h | ⟨b', h, hle⟩
                · rcases hat with h' | ⟨b', h', hle⟩
                  · exact .inl (h.trans h')
                  · exact .inr ⟨b', h.trans h', hle⟩
                · exact .inr ⟨b', h, by omega⟩
              have hO2' := hO2.mono (S' := fun j => S j ∨ w.heap.size ≤ j) (fun j h _ => h.elim id (fun h => .inr (by omega)))
              have hA2 := hA1.chg hC2 hne
              clear hub hO1 hrep
              go_wp2
              go_roundg m
              case measure => omega
              case rel => exact ⟨by omega, k, _, hA2, by omega, hk', by omega, hO2', hat', hC02, by omega, HD2.out⟩
          case false =>
            rw [h36] at hq36
            cases h92 : c == 92 && dblEsc (s.data.toList.drop (b + 1))
            case true =>
              simp only [Bool.and_eq_true] at h92
              obtain ⟨h92, hesc⟩ := h92
              rw [h92] at hq92
              have hl1 : b + 1 < s.size := by
                by_cases hh : b + 1 < s.size
                · exact hh
                · rw [drop_end s _ hh] at hesc; cases hesc
              have hix := indexByte_neg dblq s[b + 1]
              have hdb : dblq.contains s[b + 1] = true := by rw [byte_drop s _ hl1] at hesc; exact hesc
              rw [hdb] at hix
              have hix' : decide (0 ≤ Lib.indexByte [36, 34, 92, 96, 10] s[b + 1]) = true := hix
              have HESC := Lib.hid hesc; clear hesc hix hdb
              have r0 : (0 : Int) ≤ (b : Int) + 1 := by omega
              have r1 : (b : Int) + 1 < (s.size : Int) := by omega
              go_wp2
              have hwr : IntKind.i64.wrap ((b : Int) + 1) = (b : Int) + 1 := IntWalk.i64_in _ (by omega)
              have r2 : ((b : Int) + 1).toNat = b + 1 := by omega
              go_quiet ((go_at_call 28; exact (Try.strings_IndexByte _ _ _).mono (fun _ _ hh => ⟨hh.1, _, hh.2⟩)))
              clear hwr
              go_wp2_with fail
              have HD1 : Hid (∀ RD, escape l' (s.data.toList.drop b) = RD → (match RD with | .ok l1 r' => doubleF m d (s.size - a) l1 r' | .err a e => .err a e) = R) := Lib.hid (by
                rintro RD rfl
                rw [← HK.out, HD.out, HCONS.out, if_neg (by simp [h34]), if_neg (by simp [h96]), if_neg (by simp [h36]), if_pos (by rw [h92, HESC.out]; rfl)])
              have HL := Lib.hid (escape_len l')
              refine (escape_calls g s b d (fun j => S j ∨ w.heap.size ≤ j) u1 l' (wr.drewN _) hA hlt hs (hO'.stay ((Chg.refl (fun _ => False) _).drewN _) (fun _ _ e => e)) (fun e => hSg g e rfl) (by omega)).mono ?_
              intro e w1 hpost
              generalize hRD : escape l' (s.data.toList.drop b) = RD at hpost
              have HD2 := Lib.hid (HD1.out RD hRD); clear HD1
              have HRD := Lib.hid hRD; clear hRD
              cases RD with
              | err left code =>
                obtain ⟨k, hk', hl, rfl, hC1⟩ := hpost
                refine ⟨rfl, ?_⟩
                rw [← HD2.out]
                exact ⟨k, hk', hl, rfl, (hC.drewN _).trans hC1 (fun j e hl => by
                  rcases e with e | e
                  · exact .inl e
                  · rcases hat with h | ⟨b', h, hle⟩
                    · exact .inr (e.trans h)
                    · rw [h] at e; cases e; omega)⟩
              | ok l1 rest =>
                obtain ⟨v2, k, rfl, hk', rfl, ⟨hO2, hat2⟩, hA2, hC2⟩ := hpost
                have hL := HL.out _ _ _ HRD.out
                rw [drop_len, drop_len] at hL
                have hz0 := hC.size
                have hat' : AtOr v v2 w := by
                  rcases hat2 with h | ⟨b', h, hle⟩
                  · rcases hat with h' | ⟨b', h', hle⟩
                    · exact .inl (h.trans h')
                    · exact .inr ⟨b', h.trans h', hle⟩
                  · exact .inr ⟨b', h, Nat.le_trans hz0 hle⟩
                have hC02 : Chg (fun j => j = g ∨ some j = v.ownBlock) w w1 := (hC.drewN _).trans hC2 (fun j e hl => by
                  rcases e with e | e
                  · exact .inl e
                  · rcases hat with h | ⟨b', h, hle⟩
                    · exact .inr (e.trans h)
                    · rw [h] at e; cases e; omega)
                have hO2' := hO2.mono (S' := fun j => S j ∨ w.heap.size ≤ j) (fun j h _ => h.elim id (fun h => .inr (Nat.le_trans hz0 h)))
                clear hO2
                go_wp2
                go_roundg m
                case measure => omega
                case rel => exact ⟨by omega, k, _, hA2, by omega, hk', by omega, hO2', hat', hC02, by omega, HD2.out⟩
            case false =>
              have HNEXT : Hid (doubleF m d (s.size - a) (add l' (lit [c] true)) (s.data.toList.drop (b + 1)) = R) := Lib.hid (by
                rw [← HK.out, HD.out, HCONS.out, if_neg (by simp [h34]), if_neg (by simp [h96]), if_neg (by simp [h36]), if_neg (by rw [h92]; simp)])
              clear HD HCONS HK
              have hwr : IntKind.i64.wrap ((b : Int) + 1) = (b : Int) + 1 := IntWalk.i64_in _ (by omega)
              cases hc92 : c == 92
              case false =>
                rw [hc92] at hq92
                go_wp2
                go_quiet ((go_at_call 28; exact (Try.strings_IndexByte _ _ _).mono (fun _ _ hh => ⟨hh.1, _, hh.2⟩)))
                go_wp2_with fail
                have hne : ¬ some g = u1.ownBlock := fun e => hugb g e.symm rfl
                have r3 : (b : Int) ≤ (b : Int) + 1 := by omega
                have r4 : (b : Int) + 1 ≤ (s.size : Int) := by omega
                go_region_held3 (fun w' => w'.cell? ⟨g, 0, none⟩ = some (.string s) ∧ w'.cell? ⟨g, 1, none⟩ = some (.int .i64 b))
                  (first
                    | go_keep
                    | (go_split_ands; exact ⟨(Chg.of_below hb1').cell (by assumption) (fun e => e), (Chg.of_below hb1').cell (by assumption) (fun e => e)⟩)
                    | (go_split_ands; exact ⟨hC2.cell (by assumption) hne, hC2.cell (by assumption) hne⟩))
                  (first
                    | (go_at_call 38; refine (lit_calls _ _ _).mono ?_; rintro e w1 ⟨rfl, hb1'⟩)
                    | (go_at_call 37; refine (add_calls _ (fun j => S j ∨ w.heap.size ≤ j) (fun _ => False) u1 l' (lit [c] true) [.int .i64 1, .bool true, .string (bstr [c]), .string ⟨#[]⟩, .slice none 0 0] ((hO'.stay ((Chg.refl (fun _ => False) _).drewN _) (fun _ _ e => e)).stay (Chg.of_below hb1') (fun _ _ e => e)) (lit_rep _ [c] true) (fun _ h => h.elim) (by rw [lit_wt]; simp; omega)).mono ?_; rintro e w2 ⟨v2, rfl, hO2, hC2, hat2⟩))
                have hz0 := hC.size
                have hz1 : wr.heap.size ≤ w1.heap.size := hb1'.size
                have hz2 := hC2.size
                have hA1 : ScanAt w1 g s (b : Nat) d := ScanAt.chg (w := wr.drewN _) hA (Chg.of_below hb1') (fun e => e)
                have hA2 := hA1.chg hC2 hne
                obtain ⟨j0, j1, j2, jf1, _, jgl⟩ := hA2.cells
                have haw := add_wt l' (lit [c] true)
                rw [lit_wt, List.length_singleton] at haw
                have hC02 : Chg (fun j => j = g ∨ some j = v.ownBlock) w w2 := ((hC.drewN _).trans (Chg.of_below hb1') (fun _ h _ => h.elim)).trans hC2 (fun j e hl => by
                  rcases hat with h | ⟨b', h, hle⟩
                  · exact .inr (e.trans h)
                  · rw [h] at e; cases e; omega)
                have hat' : AtOr v v2 w := by
                  rcases hat2 with h | ⟨b', h, hle⟩
                  · rcases hat with h' | ⟨b', h', hle⟩
                    · exact .inl (h.trans h')
                    · exact .inr ⟨b', h.trans h', hle⟩
                  · exact .inr ⟨b', h, by omega⟩
                have hO2' := (hO2.mono (S' := fun j => S j ∨ w.heap.size ≤ j) (fun j h _ => h.elim id (fun h => .inr (by omega)))).stay (((Chg.refl (· = g) _)).setCell (p := ⟨g, 1, none⟩) (fun _ => rfl) (.int .i64 ((b : Int) + 1))) hSg
                have hA3 := hA2.at' ((b : Int) + 1)
                have HC03 := hC02.setCell (p := ⟨g, 1, none⟩) (fun _ => .inl rfl) (.int .i64 ((b : Int) + 1))
                clear hO2 hA1
                go_wp2
                go_roundg m
                case measure => omega
                case rel => exact ⟨by omega, b + 1, _, hA3, by omega, by omega, by omega, hO2', hat', HC03, by omega, HNEXT.out⟩
              case true =>
                rw [hc92] at hq92 h92
                by_cases hl1 : b + 1 < s.size
                · have hesc : dblEsc (s.data.toList.drop (b + 1)) = false := by simpa using h92
                  have hix := indexByte_neg dblq s[b + 1]
                  have hdb : dblq.contains s[b + 1] = false := by rw [byte_drop s _ hl1] at hesc; exact hesc
                  rw [hdb] at hix
                  have hix' : decide (0 ≤ Lib.indexByte [36, 34, 92, 96, 10] s[b + 1]) = false := hix
                  have HESC := Lib.hid hesc; clear hesc hix hdb
                  have r0 : (0 : Int) ≤ (b : Int) + 1 := by omega
                  have r1 : (b : Int) + 1 < (s.size : Int) := by omega
                  have r2 : ((b : Int) + 1).toNat = b + 1 := by omega
                  go_wp2
                  go_quiet ((go_at_call 28; exact (Try.strings_IndexByte _ _ _).mono (fun _ _ hh => ⟨hh.1, _, hh.2⟩)))
                  go_wp2_with fail
                  have hne : ¬ some g = u1.ownBlock := fun e => hugb g e.symm rfl
                  have r3 : (b : Int) ≤ (b : Int) + 1 := by omega
                  have r4 : (b : Int) + 1 ≤ (s.size : Int) := by omega
                  go_region_held3 (fun w' => w'.cell? ⟨g, 0, none⟩ = some (.string s) ∧ w'.cell? ⟨g, 1, none⟩ = some (.int .i64 b))
                    (first
                      | go_keep
                      | (go_split_ands; exact ⟨(Chg.of_below hb1').cell (by assumption) (fun e => e), (Chg.of_below hb1').cell (by assumption) (fun e => e)⟩)
                      | (go_split_ands; exact ⟨hC2.cell (by assumption) hne, hC2.cell (by assumption) hne⟩))
                    (first
                      | (go_at_call 38; refine (lit_calls _ _ _).mono ?_; rintro e w1 ⟨rfl, hb1'⟩)
                      | (go_at_call 37; refine (add_calls _ (fun j => S j ∨ w.heap.size ≤ j) (fun _ => False) u1 l' (lit [c] true) [.int .i64 1, .bool true, .string (bstr [c]), .string ⟨#[]⟩, .slice none 0 0] ((hO'.stay ((Chg.refl (fun _ => False) _).drewN _) (fun _ _ e => e)).stay (Chg.of_below hb1') (fun _ _ e => e)) (lit_rep _ [c] true) (fun _ h => h.elim) (by rw [lit_wt]; simp; omega)).mono ?_; rintro e w2 ⟨v2, rfl, hO2, hC2, hat2⟩))
                  have hz0 := hC.size
                  have hz1 : wr.heap.size ≤ w1.heap.size := hb1'.size
                  have hz2 := hC2.size
                  have hA1 : ScanAt w1 g s (b : Nat) d := ScanAt.chg (w := wr.drewN _) hA (Chg.of_below hb1') (fun e => e)
                  have hA2 := hA1.chg hC2 hne
                  obtain ⟨j0, j1, j2, jf1, _, jgl⟩ := hA2.cells
                  have haw := add_wt l' (lit [c] true)
                  rw [lit_wt, List.length_singleton] at haw
                  have hC02 : Chg (fun j => j = g ∨ some j = v.ownBlock) w w2 := ((hC.drewN _).trans (Chg.of_below hb1') (fun _ h _ => h.elim)).trans hC2 (fun j e hl => by
                    rcases hat with h | ⟨b', h, hle⟩
                    · exact .inr (e.trans h)
                    · rw [h] at e; cases e; omega)
                  have hat' : AtOr v v2 w := by
                    rcases hat2 with h | ⟨b', h, hle⟩
                    · rcases hat with h' | ⟨b', h', hle⟩
                      · exact .inl (h.trans h')
                      · exact .inr ⟨b', h.trans h', hle⟩
                    · exact .inr ⟨b', h, by omega⟩
                  have hO2' := (hO2.mono (S' := fun j => S j ∨ w.heap.size ≤ j) (fun j h _ => h.elim id (fun h => .inr (by omega)))).stay (((Chg.refl (· = g) _)).setCell (p := ⟨g, 1, none⟩) (fun _ => rfl) (.int .i64 ((b : Int) + 1))) hSg
                  have hA3 := hA2.at' ((b : Int) + 1)
                  have HC03 := hC02.setCell (p := ⟨g, 1, none⟩) (fun _ => .inl rfl) (.int .i64 ((b : Int) + 1))
                  clear hO2 hA1
                  go_wp2
                  go_roundg m
                  case measure => omega
                  case rel => exact ⟨by omega, b + 1, _, hA3, by omega, by omega, by omega, hO2', hat', HC03, by omega, HNEXT.out⟩
                · have r1 : decide ((b : Int) + 1 < (s.size : Int)) = false := by simp; omega
                  go_wp2
                  go_quiet ((go_at_call 28; exact (Try.strings_IndexByte _ _ _).mono (fun _ _ hh => ⟨hh.1, _, hh.2⟩)))
                  go_wp2_with fail
                  have hne : ¬ some g = u1.ownBlock := fun e => hugb g e.symm rfl
                  have r3 : (b : Int) ≤ (b : Int) + 1 := by omega
                  have r4 : (b : Int) + 1 ≤ (s.size : Int) := by omega
                  go_region_held3 (fun w' => w'.cell? ⟨g, 0, none⟩ = some (.string s) ∧ w'.cell? ⟨g, 1, none⟩ = some (.int .i64 b))
                    (first
                      | go_keep
                      | (go_split_ands; exact ⟨(Chg.of_below hb1').cell (by assumption) (fun e => e), (Chg.of_below hb1').cell (by assumption) (fun e => e)⟩)
                      | (go_split_ands; exact ⟨hC2.cell (by assumption) hne, hC2.cell (by assumption) hne⟩))
                    (first
                      | (go_at_call 38; refine (lit_calls _ _ _).mono ?_; rintro e w1 ⟨rfl, hb1'⟩)
                      | (go_at_call 37; refine (add_calls _ (fun j => S j ∨ w.heap.size ≤ j) (fun _ => False) u1 l' (lit [c] true) [.int .i64 1, .bool true, .string (bstr [c]), .string ⟨#[]⟩, .slice none 0 0] ((hO'.stay ((Chg.refl (fun _ => False) _).drewN _) (fun _ _ e => e)).stay (Chg.of_below hb1') (fun _ _ e => e)) (lit_rep _ [c] true) (fun _ h => h.elim) (by rw [lit_wt]; simp; omega)).mono ?_; rintro e w2 ⟨v2, rfl, hO2, hC2, hat2⟩))
                  have hz0 := hC.size
                  have hz1 : wr.heap.size ≤ w1.heap.size := hb1'.size
                  have hz2 := hC2.size
                  have hA1 : ScanAt w1 g s (b : Nat) d := ScanAt.chg (w := wr.drewN _) hA (Chg.of_below hb1') (fun e => e)
                  have hA2 := hA1.chg hC2 hne
                  obtain ⟨j0, j1, j2, jf1, _, jgl⟩ := hA2.cells
                  have haw := add_wt l' (lit [c] true)
                  rw [lit_wt, List.length_singleton] at haw
                  have hC02 : Chg (fun j => j = g ∨ some j = v.ownBlock) w w2 := ((hC.drewN _).trans (Chg.of_below hb1') (fun _ h _ => h.elim)).trans hC2 (fun j e hl => by
                    rcases hat with h | ⟨b', h, hle⟩
                    · exact .inr (e.trans h)
                    · rw [h] at e; cases e; omega)
                  have hat' : AtOr v v2 w := by
                    rcases hat2 with h | ⟨b', h, hle⟩
                    · rcases hat with h' | ⟨b', h', hle⟩
                      · exact .inl (h.trans h')
                      · exact .inr ⟨b', h.trans h', hle⟩
                    · exact .inr ⟨b', h, by omega⟩
                  have hO2' := (hO2.mono (S' := fun j => S j ∨ w.heap.size ≤ j) (fun j h _ => h.elim id (fun h => .inr (by omega)))).stay (((Chg.refl (· = g) _)).setCell (p := ⟨g, 1, none⟩) (fun _ => rfl) (.int .i64 ((b : Int) + 1))) hSg
                  have hA3 := hA2.at' ((b : Int) + 1)
                  have HC03 := hC02.setCell (p := ⟨g, 1, none⟩) (fun _ => .inl rfl) (.int .i64 ((b : Int) + 1))
                  clear hO2 hA1
                  go_wp2
                  go_roundg m
                  case measure => omega
                  case rel => exact ⟨by omega, b + 1, _, hA3, by omega, by omega, by omega, hO2', hat', HC03, by omega, HNEXT.out⟩
    · have q1 : decide ((b : Int) < (s.size : Int)) = false := by simp; omega
      obtain ⟨m, rfl⟩ : ∃ m, gk = m + 1 := ⟨gk - 1, by omega⟩
      go_wp2
      go_quiet (fail)
      go_wp2_with (go_at_call 36; refine (fail_calls _ _ _ _).mono ?_; rintro e w1 ⟨rfl, rfl⟩)
      refine ⟨rfl, ?_⟩
      rw [← HK.out, drop_end s b hlt, double_nil]
      exact ⟨a, by omega, by omega, rfl, hC.drewN _⟩
end Go.Proofs.Ytdfnkmiabmjolaa
