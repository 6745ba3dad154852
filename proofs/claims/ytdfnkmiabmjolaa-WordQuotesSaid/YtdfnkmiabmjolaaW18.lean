/- Walks of the reference's Same. -/
import Derived.Test.YtdfnkmiabmjolaaW17
namespace Go.Proofs.Ytdfnkmiabmjolaa
open Go.RowKit
set_option linter.unusedVariables false
set_option linter.unusedSimpArgs false

theorem beqs_length : ∀ (a b : List Part), a.length ≠ b.length → beqs a b = false
  | [], [], h => absurd rfl h
  | [], _ :: _, _ => by simp [beqs]
  | _ :: _, [], _ => by simp [beqs]
  | p :: a, q :: b, h => by rw [beqs, beqs_length a b (by simpa using h), Bool.and_false]
theorem beqs_drop (a b : List Part) (k : Nat) (p q : Part) (hp : a[k]? = some p) (hq : b[k]? = some q) : beqs (a.drop k) (b.drop k) = (Part.beq p q && beqs (a.drop (k + 1)) (b.drop (k + 1))) := by
  obtain ⟨h1, e1⟩ := List.getElem?_eq_some_iff.1 hp
  obtain ⟨h2, e2⟩ := List.getElem?_eq_some_iff.1 hq
  rw [List.drop_eq_getElem_cons h1, List.drop_eq_getElem_cons h2, e1, e2, beqs]

def SameSaid (n : Nat) : Prop := ∀ (w : World) (S1 S2 : Nat → Prop) (v1 v2 : Value) (l1 l2 : List Part), Part.wts l1 ≤ n →
  Rep w S1 (.sl 35 5 (Part.ds l1)) [v1] → Rep w S2 (.sl 35 5 (Part.ds l2)) [v2] →
  Calls Try.prog 12 #[v1, v2] w fun e w' => e = .returned (.bool (beqs l1 l2)) ∧ ∃ m, w' = w.drewN m

set_option maxRecDepth 100000 in
set_option maxHeartbeats 4000000 in
theorem same_step (n : Nat) (IH : ∀ m, m < n → SameSaid m) : SameSaid n := by
  intro w S1 S2 v1 v2 l1 l2 hn h1 h2
  obtain ⟨B1, d1, i1, e1, hd1, hx1, hR1, hE1⟩ := h1
  obtain ⟨B2, d2, i2, e2, hd2, hx2, hR2, hE2⟩ := h2
  have hv1 : v1 = .slice B1 l1.length d1 := by rw [Part.ds_length] at e1; simpa using e1
  have hv2 : v2 = .slice B2 l2.length d2 := by rw [Part.ds_length] at e2; simpa using e2
  subst hv1
  subst hv2
  rw [Part.ds_length] at hd1 hd2
  have h1 : Rep w S1 (.sl 35 5 (Part.ds l1)) [.slice B1 l1.length d1] := ⟨B1, d1, i1, by rw [Part.ds_length], by rw [Part.ds_length]; exact hd1, hx1, hR1, hE1⟩
  have h2 : Rep w S2 (.sl 35 5 (Part.ds l2)) [.slice B2 l2.length d2] := ⟨B2, d2, i2, by rw [Part.ds_length], by rw [Part.ds_length]; exact hd2, hx2, hR2, hE2⟩
  clear e1 e2 hR1 hR2 hE1 hE2
  simp only [maxLen] at hx1 hx2
  by_cases hl : l1.length = l2.length
  · have t1 : ((l1.length : Int) != (l2.length : Int)) = false := by simp; omega
    generalize hR : beqs l1 l2 = R
    have HR := Lib.hid hR; clear hR
    go_enter Try.func12, Try.ntmps12
    go_wp2
    go_loopg [5] l1.length (fun rk i wr => ∃ k : Nat, k + rk = l1.length ∧ i = .int .i64 k ∧ (∃ m, wr = w.drewN m) ∧ Hid (beqs (l1.drop k) (l2.drop k) = R))
    case atStart => exact ⟨0, by omega, rfl, ⟨0, rfl⟩, Lib.hid (by simpa using HR.out)⟩
    case round =>
      obtain ⟨k, hk, rfl, ⟨m, hm⟩, HK⟩ := hrel
      have h1' : Rep wr S1 (.sl 35 5 (Part.ds l1)) [.slice B1 l1.length d1] := by rw [hm]; exact h1.stay ((Chg.refl (fun _ => False) _).drewN _) (fun _ _ e => e)
      have h2' : Rep wr S2 (.sl 35 5 (Part.ds l2)) [.slice B2 l2.length d2] := by rw [hm]; exact h2.stay ((Chg.refl (fun _ => False) _).drewN _) (fun _ _ e => e)
      clear h1 h2
      have HM := Lib.hid hm; clear hm
      by_cases hlt : k < l1.length
      · obtain ⟨p1, hp1⟩ : ∃ p, l1[k]? = some p := ⟨l1[k], List.getElem?_eq_getElem hlt⟩
        obtain ⟨p2, hp2⟩ : ∃ p, l2[k]? = some p := ⟨l2[k], List.getElem?_eq_getElem (by omega)⟩
        have HB := Lib.hid (beqs_drop l1 l2 k p1 p2 hp1 hp2)
        have hwp := wt_get hp1
        have hwd := wts_drop l1 k
        obtain ⟨b1, o1, c1', cs1, hv1, _, _, hb1, hr1, _, hcs1⟩ := sl_get h1' (by omega) k p1.d (by rw [Part.ds_map, List.getElem?_map, hp1]; rfl)
        obtain ⟨b2, o2, c2', cs2, hv2, _, _, hb2, hr2, _, hcs2⟩ := sl_get h2' (by omega) k p2.d (by rw [Part.ds_map, List.getElem?_map, hp2]; rfl)
        simp only [Part.ds_length, Value.slice.injEq] at hv1 hv2
        obtain ⟨rfl, _, rfl⟩ := hv1
        obtain ⟨rfl, _, rfl⟩ := hv2
        clear hp1 hp2 h1' h2'
        obtain ⟨kd1, qd1, td1, od1, wd1⟩ := p1
        obtain ⟨A1, c1, rfl, hwv1, hc1, hm1⟩ := part_rep2 hr1
        have g10 := hcs1 0 _ rfl
        have g11 := hcs1 1 _ rfl
        have g12 := hcs1 2 _ rfl
        have g13 := hcs1 3 _ rfl
        have g14 := hcs1 4 _ rfl
        simp only [Nat.add_zero, ← Nat.add_assoc] at g10 g11 g12 g13 g14
        clear hcs1
        obtain ⟨kd2, qd2, td2, od2, wd2⟩ := p2
        obtain ⟨A2, c2, rfl, hwv2, hc2, hm2⟩ := part_rep2 hr2
        have g20 := hcs2 0 _ rfl
        have g21 := hcs2 1 _ rfl
        have g22 := hcs2 2 _ rfl
        have g23 := hcs2 3 _ rfl
        have g24 := hcs2 4 _ rfl
        simp only [Nat.add_zero, ← Nat.add_assoc] at g20 g21 g22 g23 g24
        clear hcs2
        have hlt2 : k < l2.length := by omega
        simp only [Part.wt] at hwp
        cases hk0 : (kd1 != kd2)
        case true =>
          have hR0 : Hid (R = false) := Lib.hid (by
            rw [← HK.out, HB.out, Part.beq, show (kd1 == kd2) = false by simpa using hk0]; rfl)
          go_wp2
          go_quiet (fail)
          go_wp2
          go_ret
          exact ⟨by rw [hR0.out]; try rfl, m + nq, by rw [HM.out, World.drewN_drewN]⟩
        case false =>
          cases hk1 : (qd1 == qd2)
          case false =>
            have hR0 : Hid (R = false) := Lib.hid (by
              rw [← HK.out, HB.out, Part.beq, hk1]; simp)
            go_wp2
            go_quiet (fail)
            go_wp2
            go_ret
            exact ⟨by rw [hR0.out]; try rfl, m + nq, by rw [HM.out, World.drewN_drewN]⟩
          case true =>
            have hst : ((bstr td1).toList == (bstr td2).toList) = (td1 == td2) := by rw [ByteArray.toList_eq, ByteArray.toList_eq, bstr_toList, bstr_toList]
            have hso : ((bstr od1).toList == (bstr od2).toList) = (od1 == od2) := by rw [ByteArray.toList_eq, ByteArray.toList_eq, bstr_toList, bstr_toList]
            clear hr1 hr2
            revert hst hso g12 g13 g22 g23
            generalize bstr td1 = xt1
            generalize bstr td2 = xt2
            generalize bstr od1 = xo1
            generalize bstr od2 = xo2
            intro g12 g13 g22 g23 hst hso
            cases hk2 : (td1 == td2)
            case false =>
              rw [hk2] at hst
              have hR0 : Hid (R = false) := Lib.hid (by
                rw [← HK.out, HB.out, Part.beq, hk2]; simp)
              go_wp2
              go_quiet (fail)
              go_wp2
              go_ret
              exact ⟨by rw [hR0.out]; try rfl, m + nq, by rw [HM.out, World.drewN_drewN]⟩
            case true =>
              rw [hk2] at hst
              cases hk3 : (od1 == od2)
              case false =>
                rw [hk3] at hso
                have hR0 : Hid (R = false) := Lib.hid (by
                  rw [← HK.out, HB.out, Part.beq, hk3]; simp)
                go_wp2
                go_quiet (fail)
                go_wp2
                go_ret
                exact ⟨by rw [hR0.out]; try rfl, m + nq, by rw [HM.out, World.drewN_drewN]⟩
              case true =>
                rw [hk3] at hso
                cases hk4 : beqs wd1 wd2
                case false =>
                  have hR0 : Hid (R = false) := Lib.hid (by
                    rw [← HK.out, HB.out, Part.beq, hk4]; simp)
                  have hcall : ∀ m' : Nat, Calls Try.prog 12 #[.slice A1 wd1.length c1, .slice A2 wd2.length c2] (wr.drewN m') fun e w' => e = .returned (.bool false) ∧ ∃ n, w' = (wr.drewN m').drewN n :=
                    fun m' => (IH _ (by omega) (wr.drewN m') S1 S2 _ _ wd1 wd2 (Nat.le_refl _) (hwv1.stay ((Chg.refl (fun _ => False) _).drewN _) (fun _ _ e => e)) (hwv2.stay ((Chg.refl (fun _ => False) _).drewN _) (fun _ _ e => e))).mono (fun _ _ hh => ⟨by rw [← hk4]; exact hh.1, hh.2⟩)
                  go_wp2
                  go_quiet ((go_at_call 12; exact (hcall _).quiet_of))
                  go_wp2
                  go_ret
                  exact ⟨by rw [hR0.out]; try rfl, m + nq, by rw [HM.out, World.drewN_drewN]⟩
                case true =>
                  have hR0 : Hid (beqs (l1.drop (k + 1)) (l2.drop (k + 1)) = R) := Lib.hid (by
                    rw [← HK.out, HB.out, Part.beq, hk1, hk2, hk3, hk4, show (kd1 == kd2) = true by simpa using hk0]; rfl)
                  have hcall : ∀ m' : Nat, Calls Try.prog 12 #[.slice A1 wd1.length c1, .slice A2 wd2.length c2] (wr.drewN m') fun e w' => e = .returned (.bool true) ∧ ∃ n, w' = (wr.drewN m').drewN n :=
                    fun m' => (IH _ (by omega) (wr.drewN m') S1 S2 _ _ wd1 wd2 (Nat.le_refl _) (hwv1.stay ((Chg.refl (fun _ => False) _).drewN _) (fun _ _ e => e)) (hwv2.stay ((Chg.refl (fun _ => False) _).drewN _) (fun _ _ e => e))).mono (fun _ _ hh => ⟨by rw [← hk4]; exact hh.1, hh.2⟩)
                  go_wp2
                  go_quiet ((go_at_call 12; exact (hcall _).quiet_of))
                  go_wp2
                  go_roundg (gk - 1)
                  case measure => omega
                  case rel => exact ⟨k + 1, by omega, by go_num, ⟨m + nq, by rw [HM.out, World.drewN_drewN]⟩, hR0⟩
      · have hR0 : Hid (R = true) := Lib.hid (by
          rw [← HK.out, List.drop_eq_nil_of_le (by omega), List.drop_eq_nil_of_le (by omega)]; rfl)
        go_wp2
        go_ret
        exact ⟨by rw [hR0.out]; try rfl, m, HM.out⟩
  · have t1 : ((l1.length : Int) != (l2.length : Int)) = true := by simp; omega
    go_enter Try.func12, Try.ntmps12
    go_wp2
    go_ret
    exact ⟨by rw [beqs_length l1 l2 hl]; rfl, 0, rfl⟩

theorem same_calls (w : World) (S1 S2 : Nat → Prop) (v1 v2 : Value) (l1 l2 : List Part)
    (h1 : Rep w S1 (.sl 35 5 (Part.ds l1)) [v1]) (h2 : Rep w S2 (.sl 35 5 (Part.ds l2)) [v2]) :
    Calls Try.prog 12 #[v1, v2] w fun e w' => e = .returned (.bool (beqs l1 l2)) ∧ ∃ m, w' = w.drewN m := by
  have h : ∀ n, SameSaid n := fun n => Nat.strongRecOn n (fun n ih => same_step n ih)
  exact h _ w S1 S2 v1 v2 l1 l2 (Nat.le_refl _) h1 h2
end Go.Proofs.Ytdfnkmiabmjolaa
