/- Walks of package match: a text held against pieces. -/
import Derived.Test.YtbjejnegfojnmaaM5
import Derived.Deep.RegionHeld3
namespace Go.Proofs.Ytbjejnegfojnmaa
open Go.RowKit
set_option linter.unusedVariables false
set_option linter.unusedSimpArgs false

theorem sl_get {w : World} {S : Nat → Prop} {e sz : Nat} {xs : List D} {v : Value} (h : Rep w S (.sl e sz xs) [v]) (hsz : 0 < sz) (i : Nat) (d : D) (hd : xs[i]? = some d) :
    ∃ b o c cs, v = .slice (some ⟨b, o, none⟩) xs.length c ∧ xs.length ≤ c ∧ c ≤ maxLen ∧ S b ∧ Rep w S d cs ∧ cs.length = sz ∧ ∀ j u, cs[j]? = some u → w.cell? ⟨b, o + (i * sz + j), none⟩ = some u := by
  obtain ⟨A, c, inner, h1, h2, h3, h4, h5⟩ := h
  obtain ⟨cs, hr, hl, hj⟩ := RepE.get h5 i d hd
  cases h1
  match cs, hl with
  | [], hl => exact absurd hl (by simp; omega)
  | u :: us, hl =>
    obtain ⟨b, o, rfl, hb, _⟩ := h4 _ _ (hj 0 u rfl)
    refine ⟨b, o, c, u :: us, rfl, h2, h3, hb, hr, hl, fun j x hx => ?_⟩
    obtain ⟨b', o', e, _, hc⟩ := h4 _ _ (hj j x hx)
    cases e
    exact hc

theorem lex2 {X' X M C' : Nat} (C : Nat) (h : X' < X) (hc : C' < M) : X' * M + C' < X * M + C := by
  have := Nat.mul_le_mul_right M (show X' + 1 ≤ X from h)
  rw [Nat.add_mul] at this
  omega
/-- How many rounds there may be still. -/
def fitM (L n : Nat) (st : Option (Nat × Nat)) (i : Nat) : Nat :=
  match st with
  | none => ((L + 1) * (n + 2) + 0) * (L + 2) + (L + 1 - i)
  | some (a, f) => ((L - a) * (n + 2) + (n + 1 - f)) * (L + 2) + (L + 1 - i)
theorem fitM_one (L n : Nat) (st : Option (Nat × Nat)) (i : Nat) (h : i < L) : fitM L n st (i + 1) < fitM L n st i := by
  cases st with
  | none => simp only [fitM]; omega
  | some p => simp only [fitM]; omega
theorem fitM_back (L n a f i : Nat) (h : f ≤ n) : fitM L n (some (a, f + 1)) (a + 1) < fitM L n (some (a, f)) i := by
  simp only [fitM]
  exact lex2 _ (by omega) (by omega)
theorem fitM_star (L n i k : Nat) (st : Option (Nat × Nat)) (h : i < L) (hs : ∀ a f, st = some (a, f) → a < i) : fitM L n (some (i, k)) (i + 1) < fitM L n st i := by
  cases st with
  | none =>
    simp only [fitM]
    exact lex2 _ (lex2 _ (by omega) (by omega)) (by omega)
  | some p =>
    obtain ⟨a, f⟩ := p
    have := hs a f rfl
    simp only [fitM]
    exact lex2 _ (lex2 _ (by omega) (by omega)) (by omega)

def starV (st : Option (Nat × Nat)) : Int := match st with | none => -1 | some (a, _) => a
def fromV (st : Option (Nat × Nat)) : Int := match st with | none => 0 | some (_, f) => f

def FitRel (w : World) (l : List Piece) (s : ByteArray) (R : Bool) (n : Nat) (iv kv sv fv : Value) (wr : World) : Prop :=
  ∃ (i k : Nat) (st : Option (Nat × Nat)), iv = .int .i64 i ∧ kv = .int .i64 k ∧ sv = .int .i64 (starV st) ∧ fv = .int .i64 (fromV st) ∧ Hid (Inv l s.data.toList R i k st) ∧ fitM l.length s.size st i ≤ n ∧ Chg (fun _ => False) w wr

theorem isStar_eq {x : Piece} (h : x.isStar = true) : x = .star := by cases x <;> first | rfl | (simp [Piece.isStar] at h)
theorem star_kind (x : Piece) : (x.k == 42) = x.isStar := by cases x <;> rfl

set_option pp.deepTerms true in
set_option pp.maxSteps 200000 in
set_option maxRecDepth 100000 in
set_option maxHeartbeats 4000000 in
theorem fits_calls (l : List Piece) (v : Value) (S : Nat → Prop) (e : Nat) (s : ByteArray) (w : World) (hv : Rep w S (.sl e 2 (l.map Piece.d)) [v]) (hl : l.length ≤ 1000000) (hs : s.size ≤ 1000000) :
    Calls Try.prog 19 #[v, .string s] w fun e w' => e = .returned (.bool (fitsL l s.data.toList)) ∧ Chg (fun _ => False) w w' := by
  have hI := inv_start l s.data.toList
  revert hI
  generalize fitsL l s.data.toList = R
  intro hI
  have HI := Lib.hid hI; clear hI
  obtain ⟨A, c, inner, e1, hc1, hx1, hR1, hE1⟩ := id hv
  have hv1 : v = .slice A l.length c := by rw [List.length_map] at e1; simpa using e1
  subst hv1
  rw [List.length_map] at hc1
  clear e1 hR1 hE1
  simp only [maxLen] at hx1
  go_enter Try.func19, Try.ntmps19
  go_wp2
  go_loopg [5, 6, 7, 8] (fitM l.length s.size none 0) (FitRel w l s R)
  case atStart => exact ⟨0, 0, none, rfl, rfl, rfl, rfl, HI, Nat.le_refl _, Chg.refl _ _⟩
  case round =>
    obtain ⟨i, k, st, rfl, rfl, rfl, rfl, HK, hm, hC⟩ := hrel
    have hik : i ≤ l.length ∧ k ≤ s.size := ⟨HK.out.1, by have := HK.out.2.1; rwa [len_data] at this⟩
    obtain ⟨hi, hk⟩ := hik
    by_cases hlt : k < s.size
    · have q0 : (k : Int) < (s.size : Int) := by omega
      have p0 : (0 : Int) ≤ (k : Int) := by omega
      by_cases hil : i < l.length
      · have q1 : (i : Int) < (l.length : Int) := by omega
        have p1 : (0 : Int) ≤ (i : Int) := by omega
        have hxi : l[i]? = some l[i] := List.getElem?_eq_getElem hil
        generalize l[i] = x at *
        have hvw := hv.stay hC (fun _ _ e => e)
        obtain ⟨b, o, c', cs, hv', _, _, _, hr, _, hcs⟩ := sl_get hvw (by omega) i x.d (by rw [List.getElem?_map, hxi]; rfl)
        simp only [List.length_map, Value.slice.injEq] at hv'
        obtain ⟨rfl, _, rfl⟩ := hv'
        obtain rfl := piece_rep.1 hr
        have g0 := hcs 0 _ rfl
        have g1 := hcs 1 _ rfl
        simp only [Nat.add_zero, ← Nat.add_assoc] at g0 g1
        clear hcs hr hvw
        have HXI := Lib.hid hxi; clear hxi
        cases hst : x.isStar
        case true =>
          have hk42 : (x.k == 42) = true := by rw [star_kind, hst]
          have he := isStar_eq hst
          subst he
          go_wp2
          go_roundg (fitM l.length s.size (some (i, k)) (i + 1))
          case measure =>
            refine Nat.lt_of_lt_of_le (fitM_star _ _ _ _ _ hil ?_) hm
            intro a f e
            have := HK.out
            rw [e] at this
            exact this.2.2.1
          case rel => exact ⟨i + 1, k, some (i, k), by go_num, rfl, rfl, rfl, Lib.hid (inv_star HK.out HXI.out), Nat.le_refl _, hC⟩
        case false =>
          have hk42 : (x.k == 42) = false := by rw [star_kind, hst]
          have hce := fun w => one_calls x hst s[k] w
          have hk : k < s.size := hlt
          have HS : s.data.toList[k]? = some s[k] := by rw [List.getElem?_eq_getElem (by rw [len_data]; exact hlt)]; rfl
          have HC := Lib.hid HS; clear HS
          go_wp2
          go_region_held3 (fun w' => w'.cell? ⟨b, o + i * 2, none⟩ = some (.int .u8 x.k) ∧ w'.cell? ⟨b, o + i * 2 + 1, none⟩ = some (.string (bstr x.t)))
            (first
              | go_keep
              | (go_split_ands; exact ⟨hC2.cell (by assumption) (fun e => e), hC2.cell (by assumption) (fun e => e)⟩))
            (first
              | (go_at_call 27; refine (hce _).mono ?_; rintro e w2 ⟨rfl, hC2⟩))
          rename_i hHeld
          clear hHeld
          have hC3 : Chg (fun _ => False) w w2 := (hC.drewN 1).trans hC2 (fun _ h _ => h)
          clear g0 g1 hce
          cases ho : oneL x s[k]
          case true =>
            go_wp2
            go_roundg (fitM l.length s.size st (i + 1))
            case measure => exact Nat.lt_of_lt_of_le (fitM_one _ _ _ _ hil) hm
            case rel => exact ⟨i + 1, k + 1, st, by go_num, by go_num, rfl, rfl, Lib.hid (inv_one HK.out HXI.out HC.out hst ho), Nat.le_refl _, hC3⟩
          case false =>
            have hStuck : Stuck l s.data.toList i k := ⟨_, HC.out, .inr ⟨x, HXI.out, hst, ho⟩⟩
            have HST := Lib.hid hStuck; clear hStuck
            cases st with
            | none =>
              have hRf : R = false := inv_fail HK.out HST.out
              subst hRf
              simp only [starV]
              go_wp2
              go_ret
              exact ⟨rfl, hC3⟩
            | some p =>
              obtain ⟨a, f⟩ := p
              have hk := HK.out
              have hf : f ≤ k := by have := hk.2.2.2.1; omega
              have ha : a < i := hk.2.2.1
              clear hk
              simp only [starV, fromV]
              have p2 : (0 : Int) ≤ (a : Int) := by omega
              go_wp2
              go_roundg (fitM l.length s.size (some (a, f + 1)) (a + 1))
              case measure => exact Nat.lt_of_lt_of_le (fitM_back _ _ _ _ _ (by omega)) hm
              case rel => exact ⟨a + 1, f + 1, some (a, f + 1), by go_num, by go_num, rfl, rfl, Lib.hid (inv_back HK.out HST.out), Nat.le_refl _, hC3⟩
      · obtain rfl : i = l.length := by omega
        clear hil hi
        have HS : s.data.toList[k]? = some s[k] := by rw [List.getElem?_eq_getElem (by rw [len_data]; exact hlt)]; rfl
        have hStuck : Stuck l s.data.toList l.length k := ⟨_, HS, .inl (by rw [List.getElem?_eq_none_iff]; omega)⟩
        have HST := Lib.hid hStuck; clear hStuck HS hc1 hx1
        have hC3 := hC
        go_wp2
        with_reducible go_quiet (fail)
        cases st with
        | none =>
          have hRf : R = false := inv_fail HK.out HST.out
          subst hRf
          simp only [starV]
          go_wp2
          go_ret
          exact ⟨rfl, hC3.drewN _⟩
        | some p =>
          obtain ⟨a, f⟩ := p
          have hk := HK.out
          have hf : f ≤ k := by have := hk.2.2.2.1; omega
          have ha : a < l.length := hk.2.2.1
          clear hk
          simp only [starV, fromV]
          have p2 : (0 : Int) ≤ (a : Int) := by omega
          go_wp2
          go_roundg (fitM l.length s.size (some (a, f + 1)) (a + 1))
          case measure => exact Nat.lt_of_lt_of_le (fitM_back _ _ _ _ _ (by omega)) hm
          case rel => exact ⟨a + 1, f + 1, some (a, f + 1), by go_num, by go_num, rfl, rfl, Lib.hid (inv_back HK.out HST.out), Nat.le_refl _, hC3.drewN _⟩
    · have q0 : decide ((k : Int) < (s.size : Int)) = false := by simp; omega
      have hE := inv_end HK.out (by rw [len_data]; omega)
      have HE := Lib.hid hE; clear hE
      clear hm
      go_wp2
      go_loopg [5] (l.length - i) (fun n iv wr' => ∃ i : Nat, iv = .int .i64 i ∧ i + n = l.length ∧ Hid (R = (l.drop i).all Piece.isStar) ∧ Chg (fun _ => False) w wr')
      case atStart => exact ⟨i, rfl, by omega, HE, hC⟩
      case round =>
        obtain ⟨j, rfl, hj, HJ, hCj⟩ := hrel
        by_cases hjl : j < l.length
        · have q1 : (j : Int) < (l.length : Int) := by omega
          have p1 : (0 : Int) ≤ (j : Int) := by omega
          have hxi : l[j]? = some l[j] := List.getElem?_eq_getElem hjl
          generalize l[j] = x at *
          have hvw := hv.stay hCj (fun _ _ e => e)
          obtain ⟨b, o, c', cs, hv', _, _, _, hr, _, hcs⟩ := sl_get hvw (by omega) j x.d (by rw [List.getElem?_map, hxi]; rfl)
          simp only [List.length_map, Value.slice.injEq] at hv'
          obtain ⟨rfl, _, rfl⟩ := hv'
          obtain rfl := piece_rep.1 hr
          have g0 := hcs 0 _ rfl
          simp only [Nat.add_zero, ← Nat.add_assoc] at g0
          clear hcs hr hvw
          have HJ2 : Hid (R = (x.isStar && (l.drop (j + 1)).all Piece.isStar)) := Lib.hid (by rw [HJ.out, drop_some hxi]; rfl)
          clear hxi HJ
          cases hst : x.isStar
          case true =>
            have hk42 : (x.k == 42) = true := by rw [star_kind, hst]
            have HJ3 : Hid (R = (l.drop (j + 1)).all Piece.isStar) := Lib.hid (by rw [HJ2.out, hst]; rfl)
            clear HJ2
            go_wp2
            go_roundg (gk - 1)
            case measure => omega
            case rel => exact ⟨j + 1, by go_num, by omega, HJ3, hCj⟩
          case false =>
            have hk42 : (x.k == 42) = false := by rw [star_kind, hst]
            have hne : ((j : Int) == (l.length : Int)) = false := by simp; omega
            have HJ3 : Hid (R = false) := Lib.hid (by rw [HJ2.out, hst]; rfl)
            clear HJ2
            go_wp2
            go_ret
            exact ⟨ret_bool (by rw [HJ3.out]), hCj⟩
        · obtain rfl : j = l.length := by omega
          have HJ3 : Hid (R = true) := Lib.hid (by rw [HJ.out, List.drop_length]; rfl)
          clear hjl
          go_wp2
          go_ret
          exact ⟨ret_bool (by rw [HJ3.out]), hCj⟩
end Go.Proofs.Ytbjejnegfojnmaa
