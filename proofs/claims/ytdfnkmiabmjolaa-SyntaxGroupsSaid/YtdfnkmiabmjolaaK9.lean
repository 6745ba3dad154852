/- redir. -/
import Derived.Test.YtdfnkmiabmjolaaK8
import Derived.Deep.DeepCutAuto
import Derived.Deep.CutBlock
namespace Go.Proofs.Ytdfnkmiabmjolaa
open Go.RowKit
set_option linter.unusedVariables false
set_option linter.unusedSimpArgs false

/-- What word tells, so deep, of texts no longer than m. -/
def WdSaid (wd : Bytes → Rs (List Part)) (d : Nat) (m : Nat) : Prop := ∀ (g : Nat) (s : ByteArray) (r : Bytes) (w : World), ParsR w g s r d → s.size ≤ 8192 → r.length ≤ m →
  Calls Try.prog 77 #[.pointer (some ⟨g, 0, none⟩)] w (PPost w g s d (wd r) (isWord w))
def isRdr (w : World) (o : Option Rdr) (v : Value) (w' : World) : Prop := match o with
  | some x => ∃ cs, v = .tuple #[.agg cs.toArray, .bool true] ∧ Rep w' (fun k => w.heap.size ≤ k) x.d cs
  | none => v = .tuple #[.agg #[.int .i64 0, .string ⟨#[]⟩, .slice none 0 0], .bool false]
def hasFd (b : Bytes) : Bool := match b with
  | c :: d :: _ => digit c && (d == 60 || d == 62)
  | _ => false
theorem fdP_no {b : Bytes} (h : hasFd b = false) : fdP b = (-1, b) := by
  unfold fdP
  split
  · rename_i c d r
    simp only [hasFd] at h
    rw [h]; rfl
  · rfl
theorem fdP_yes {b : Bytes} (h : hasFd b = true) : ∃ c d r, b = c :: d :: r ∧ digit c = true ∧ fdP b = ((c.toNat : Int) - 48, d :: r) := by
  match b, h with
  | c :: d :: r, h =>
    simp only [hasFd] at h
    refine ⟨c, d, r, rfl, ?_, ?_⟩
    · simp only [Bool.and_eq_true] at h; exact h.1
    · simp only [fdP]; rw [h]; rfl
theorem redirP_K (wd : Bytes → Rs (List Part)) (r : Bytes) (fd : Int) (q : Bytes) (h : fdP (blanks r) = (fd, q)) : redirP wd r =
    if sgn q == [60] || sgn q == [60, 38] then (wd ((blanks q).drop (sgn q).length)).bind fun w r' => .ok (some ⟨max fd 0, sgn q, w⟩) r'
    else if sgn q == [62] || sgn q == [62, 62] || sgn q == [62, 38] then (wd ((blanks q).drop (sgn q).length)).bind fun w r' => .ok (some ⟨if fd < 0 then 1 else fd, sgn q, w⟩) r'
    else .ok none (blanks r) := by unfold redirP; rw [h]

set_option pp.deepTerms true in
set_option pp.maxSteps 200000 in
set_option maxRecDepth 100000 in
set_option maxHeartbeats 4000000 in
theorem redir_calls (wd : Bytes → Rs (List Part)) (d : Nat) (m : Nat) (hc : WdSaid wd d m) (g : Nat) (s : ByteArray) (r : Bytes) (w : World) (h : ParsR w g s r d) (hs : s.size ≤ 8192) (hm : r.length ≤ m) :
    Calls Try.prog 69 #[.pointer (some ⟨g, 0, none⟩)] w (PPost w g s d (redirP wd r) (isRdr w)) := by
  have hgl := h.lt
  have hrl := h.len
  have hbl := blanks_le r
  have hK := fun fd q hh => redirP_K wd r fd q hh
  generalize redirP wd r = R at *
  go_enter Try.func69, Try.ntmps69
  have hC0 : Chg (· = g) w (w.alloc (.cells #[.int .i64 0, .string ⟨#[]⟩, .slice none 0 0] 82)) := (Chg.refl _ w).alloc _
  have hP0 := ParsR.chg (B := fun _ => False) h ((Chg.refl _ w).alloc (.cells #[.int .i64 0, .string ⟨#[]⟩, .slice none 0 0] 82)) (fun e => e)
  have hZ0 := row_new w (.cells #[.int .i64 0, .string ⟨#[]⟩, .slice none 0 0] 82)
  go_wp2_with fail
  refine Calls.mono (blanks_calls g s r d _ hP0 hs) ?_
  rintro e w1 ⟨rfl, hP1, hC1⟩
  have hZ1 := row_chg hZ0 hC1 (by omega)
  have hC2 := hC0.trans hC1 (fun _ h _ => h)
  have hs0 : w.heap.size < w1.heap.size := by have := hC1.size; simp at this; omega
  generalize blanks r = b at *
  obtain ⟨a, ha, hbe, hl, hA⟩ := hP1.pos
  obtain ⟨h0, h1, h2, f1, f2, _⟩ := ParsAt.cells hA
  have HK := Lib.hid hK; clear hK
  have HB := Lib.hid hbe
  have hfb : hasFd b = true ∨ hasFd b = false := by cases hasFd b <;> simp
  clear hP0 hZ0 hC0 hP1 hC1 hbe
  go_upto_region 4 with fail
  go_cut [61] (fun fv wx => fv = .bool (hasFd b) ∧ ∃ n, wx = (w1.alloc (.cells #[.int .i64 (-1), .string ⟨#[]⟩, .slice none 0 0] 82)).drewN n)
  case first =>
    have hb0 := HB.out
    have r0 : IntKind.i64.wrap ((a : Int) + 1) = (a : Int) + 1 := IntWalk.i64_in _ (by omega)
    have e0 : ((a : Int) + 1).toNat = a + 1 := by omega
    have p1 : (0 : Int) ≤ (a : Int) + 1 := by omega
    by_cases hlt : a + 1 < s.size
    · rw [byte_drop s a (by omega), byte_drop s (a + 1) hlt] at hb0
      have hfd : hasFd b = (digit s[a] && (s[a + 1] == 60 || s[a + 1] == 62)) := by rw [hb0]; rfl
      have q1 : (a : Int) + 1 < (s.size : Int) := by omega
      have q2 : (a : Int) < (s.size : Int) := by omega
      have q3 : (0 : Int) ≤ (a : Int) := by omega
      have d60 : ((s[a + 1].toNat : Int) == 60) = (s[a + 1] == 60) := byte_eqn _ 60 (by decide)
      have d62 : ((s[a + 1].toNat : Int) == 62) = (s[a + 1] == 62) := byte_eqn _ 62 (by decide)
      have hdg : digitB (s[a].toNat : Int) = digit s[a] := rfl
      have HFD := Lib.hid hfd
      clear hfd hb0 hl hA HK hC2 hZ1 hfb
      cases g0 : digit s[a]
      case false =>
        rw [g0] at hdg
        have hr : hasFd b = false := by rw [HFD.out, g0]; rfl
        go_quiet ((go_at_call 16; exact (digit_calls _ _).mono (fun _ _ hh => ⟨hh.1, _, hh.2.symm⟩)))
        go_wp2_with fail
        go_meet
        exact ⟨by rw [hr], _, rfl⟩
      case true =>
        rw [g0] at hdg
        cases g1 : s[a + 1] == 60
        case true =>
          rw [g1] at d60
          have hr : hasFd b = true := by rw [HFD.out, g0, g1]; rfl
          go_quiet ((go_at_call 16; exact (digit_calls _ _).mono (fun _ _ hh => ⟨hh.1, _, hh.2.symm⟩)))
          go_wp2_with fail
          go_meet
          exact ⟨by rw [hr], _, rfl⟩
        case false =>
          rw [g1] at d60
          cases g2 : s[a + 1] == 62
          case true =>
            rw [g2] at d62
            have hr : hasFd b = true := by rw [HFD.out, g0, g1, g2]; rfl
            go_quiet ((go_at_call 16; exact (digit_calls _ _).mono (fun _ _ hh => ⟨hh.1, _, hh.2.symm⟩)))
            go_wp2_with fail
            go_meet
            exact ⟨by rw [hr], _, rfl⟩
          case false =>
            rw [g2] at d62
            have hr : hasFd b = false := by rw [HFD.out, g0, g1, g2]; rfl
            go_quiet ((go_at_call 16; exact (digit_calls _ _).mono (fun _ _ hh => ⟨hh.1, _, hh.2.symm⟩)))
            go_wp2_with fail
            go_meet
            exact ⟨by rw [hr], _, rfl⟩
    · have q1 : decide ((a : Int) + 1 < (s.size : Int)) = false := by rw [decide_eq_false_iff_not]; omega
      have hr : hasFd b = false := by
        have : b.length < 2 := by omega
        match b, this with
        | [], _ => rfl
        | [c], _ => rfl
      clear hb0 hl hA HK hC2 hZ1 hfb
      go_quiet ((go_at_call 16; exact (digit_calls _ _).mono (fun _ _ hh => ⟨hh.1, _, hh.2.symm⟩)))
      go_wp2_with fail
      go_meet
      exact ⟨by rw [hr], _, rfl⟩
  case rest =>
    obtain ⟨rfl, n0, rfl⟩ := hcut
    have hX0 := row_new w1 (.cells #[.int .i64 (-1), .string ⟨#[]⟩, .slice none 0 0] 82)
    have hCa : Chg (fun _ => False) w1 ((w1.alloc (.cells #[.int .i64 (-1), .string ⟨#[]⟩, .slice none 0 0] 82)).drewN n0) := ((Chg.refl _ w1).alloc _).drewN _
    have hA1 := hA.chg hCa (fun e => e)
    have hZ2 := row_chg hZ1 hCa (fun e => e)
    have hC3 := hC2.trans hCa (fun _ h _ => h.elim)
    have hX1 : ((w1.alloc (.cells #[.int .i64 (-1), .string ⟨#[]⟩, .slice none 0 0] 82)).drewN n0).heap[w1.heap.size]? = _ := hX0
    have hg1 : g < w1.heap.size := by omega
    clear hX0 hCa hA hZ1 hC2 h0 h1 h2 f1 f2
    generalize (w1.alloc (.cells #[.int .i64 (-1), .string ⟨#[]⟩, .slice none 0 0] 82)).drewN n0 = W at *
    generalize w1.heap.size = X at *
    go_upto_if 61 with fail
    go_cut [] (fun wx => ∃ (fd : Int) (q : Bytes), wx.heap[X]? = some (.cells #[.int .i64 fd, .string ⟨#[]⟩, .slice none 0 0] 82) ∧ ParsR wx g s q d ∧ wx.heap[w.heap.size]? = some (.cells #[.int .i64 0, .string ⟨#[]⟩, .slice none 0 0] 82) ∧ Chg (· = g) w wx ∧
      Hid (R = if sgn q == [60] || sgn q == [60, 38] then (wd ((blanks q).drop (sgn q).length)).bind fun w r' => .ok (some ⟨max fd 0, sgn q, w⟩) r'
        else if sgn q == [62] || sgn q == [62, 62] || sgn q == [62, 38] then (wd ((blanks q).drop (sgn q).length)).bind fun w r' => .ok (some ⟨if fd < 0 then 1 else fd, sgn q, w⟩) r'
        else .ok none b) ∧ (fd = -1 ∨ 0 ≤ fd) ∧ q.length ≤ r.length)
    case first =>
      rcases hfb with hfb | hfb
      · obtain ⟨c, d', t, hbe, hdg, hfd⟩ := fdP_yes hfb
        have hlb : b.length = t.length + 2 := by rw [hbe]; rfl
        have HKK := Lib.hid (HK.out _ _ hfd)
        have hb1 := hbe.symm.trans (HB.out.trans (byte_drop s a (by omega)))
        simp only [List.cons.injEq] at hb1
        obtain ⟨hc0, ht0⟩ := hb1
        have hdg2 : 48 ≤ (c.toNat : Int) ∧ (c.toNat : Int) ≤ 57 := by simpa [digit, digitB] using hdg
        have hsc : s[a] = c := hc0.symm
        have HT := Lib.hid ht0
        rw [hfb]
        obtain ⟨h0, h1, h2, f1, f2, _⟩ := ParsAt.cells hA1
        have hfX := row_free hX1
        have hcX := row_cells hX1
        have hle58 : (0 : Int) ≤ (c.toNat : Int) - 48 := by omega
        have hXg : X ≠ g := by omega
        have hZX : w.heap.size ≠ X := by omega
        have hZg : w.heap.size ≠ g := by omega
        have ha2 : a + 1 ≤ s.size := by omega
        have hXw : X < w.heap.size → X = g := fun h => by omega
        have hlq : (d' :: t).length ≤ r.length := by simp; omega
        have p0 : (0 : Int) ≤ (a : Int) := by omega
        have p1 : (a : Int) < (s.size : Int) := by omega
        have p2 : IntKind.u8.wrap ((c.toNat : Int) - 48) = (c.toNat : Int) - 48 := IntWalk.u8_in _ (by omega)
        have p3 : IntKind.i64.wrap ((c.toNat : Int) - 48) = (c.toNat : Int) - 48 := IntWalk.i64_in _ (by omega)
        have p4 : IntKind.i64.wrap ((a : Int) + 1) = (a : Int) + 1 := IntWalk.i64_in _ (by omega)
        clear hbe hdg hfd hc0 ht0 HK
        go_wp2
        refine still_tail2 12 (by kernel_rfl) (by kernel_rfl) ?_
        simp only [List.take_succ_cons, List.take_zero, List.drop_succ_cons, List.drop_zero]
        repeat still_step
        refine wpStill_nil ?_
        go_wp2_with fail
        have hX2 := row_far (row_set hX1 0 (.int .i64 ((c.toNat : Int) - 48))) (p := ⟨g, 1, none⟩) hXg (.int .i64 ((a : Int) + 1))
        have hZ3 := row_far (row_far hZ2 (p := ⟨X, 0, none⟩) hZX (.int .i64 ((c.toNat : Int) - 48))) (p := ⟨g, 1, none⟩) hZg (.int .i64 ((a : Int) + 1))
        have hA2 : ParsAt (W.setCell ⟨X, 0, none⟩ (.int .i64 ((c.toNat : Int) - 48))) g s a d := ParsAt.chg (B := (· = X)) hA1 (setCell_chg _ X 0 _) (Ne.symm hXg)
        have hA3 := hA2.at' ((a : Int) + 1)
        have hC4 : Chg (· = g) w ((W.setCell ⟨X, 0, none⟩ (.int .i64 ((c.toNat : Int) - 48))).setCell ⟨g, 1, none⟩ (.int .i64 ((a : Int) + 1))) := (hC3.setCell hXw _).setCell (fun _ => rfl) _
        have hP : ParsR ((W.setCell ⟨X, 0, none⟩ (.int .i64 ((c.toNat : Int) - 48))).setCell ⟨g, 1, none⟩ (.int .i64 ((a : Int) + 1))) g s (d' :: t) d := ⟨a + 1, ha2, HT.out, by simpa using hA3⟩
        have hfdr : (c.toNat : Int) - 48 = -1 ∨ (0 : Int) ≤ (c.toNat : Int) - 48 := .inr hle58
        simp only [List.setIfInBounds_toArray, List.set_cons_zero, List.set_cons_succ] at hX2
        clear h0 h1 h2 f1 f2 hfX hcX p0 hsc p1 p2 p3 p4 hA1 hA2 hA3 hX1 hZ2 hC3 HT hlb hle58 hdg2
        go_meet
        exact ⟨_, _, hX2, hP, hZ3, hC4.drewN 1, HKK, hfdr, hlq⟩
      · have HKK := Lib.hid (HK.out _ _ (fdP_no hfb))
        rw [hfb]
        go_wp2_with fail
        go_meet
        exact ⟨_, _, hX1, ⟨a, ha, HB.out, hA1⟩, hZ2, hC3, HKK, .inl rfl, hbl⟩
    case rest =>
      clear hA1 hZ2 hC3 hX1 HK hfb
      obtain ⟨fd, q, hX1, hP, hZ1, hC1, HR, hfdr, hlq⟩ := hcut
      have hSg := sign_calls g s q d wc hP hs
      have hbl := blanks_le q
      have hsl := sgn_le q
      have e60 : ((bstr (sgn q)).toList == [60]) = (sgn q == [60]) := by rw [ByteArray.toList_eq, bstr_toList]
      have e61 : ((bstr (sgn q)).toList == [60, 38]) = (sgn q == [60, 38]) := by rw [ByteArray.toList_eq, bstr_toList]
      have e62 : ((bstr (sgn q)).toList == [62]) = (sgn q == [62]) := by rw [ByteArray.toList_eq, bstr_toList]
      have e63 : ((bstr (sgn q)).toList == [62, 62]) = (sgn q == [62, 62]) := by rw [ByteArray.toList_eq, bstr_toList]
      have e64 : ((bstr (sgn q)).toList == [62, 38]) = (sgn q == [62, 38]) := by rw [ByteArray.toList_eq, bstr_toList]
      have hzB : (bstr (sgn q)).size = (sgn q).length := bstr_size _
      have hXg : X ≠ g := by omega
      have hZX : w.heap.size ≠ X := by omega
      have hZg : w.heap.size ≠ g := by omega
      generalize sgn q = sg at *
      generalize hsB : bstr sg = sB at *
      generalize blanks q = q1 at *
      have HSB := Lib.hid hsB; clear hsB
      have hcX := row_cells hX1
      have hfX := row_free hX1
      go_wp2_with fail
      refine Calls.mono hSg ?_
      rintro e w4 ⟨rfl, hP4, hC4⟩
      have hX2 := row_chg hX1 hC4 hXg
      have hZ2 := row_chg hZ1 hC4 hZg
      have hC5 := hC1.trans hC4 (fun _ h _ => h)
      have hcX := row_cells hX2
      have hfX := row_free hX2
      clear hSg hX1 hZ1 hC1 hC4 hP
      go_upto_region 8 with fail
      have hX3 := row_set hX2 1 (.string sB)
      have hCX := setCell_chg w4 X 1 (.string sB)
      have hZ3 := row_chg hZ2 hCX hZX
      have hP5 := hP4.chg hCX (Ne.symm hXg)
      have hC6 := hC5.trans hCX (fun k hk hl => by omega)
      simp only [List.setIfInBounds_toArray, List.set_cons_zero, List.set_cons_succ] at hX3
      clear hX2 hZ2 hP4 hC5 hcX hfX hCX
      generalize w4.setCell ⟨X, 1, none⟩ (.string sB) = U at *
      have hcX := row_cells hX3
      have hfX := row_free hX3
      go_upto_block 0 with fail
      go_cut [] (fun wx => ∃ fd2 : Int, wx.heap[X]? = some (.cells #[.int .i64 fd2, .string sB, .slice none 0 0] 82) ∧ ParsR wx g s q1 d ∧ wx.heap[w.heap.size]? = some (.cells #[.int .i64 0, .string ⟨#[]⟩, .slice none 0 0] 82) ∧ Chg (· = g) w wx ∧
        Hid (R = (wd (q1.drop sg.length)).bind fun w r' => .ok (some ⟨fd2, sg, w⟩) r'))
      case first =>
        have fin : ∀ fd2 : Int, Hid (R = (wd (q1.drop sg.length)).bind fun w r' => .ok (some ⟨fd2, sg, w⟩) r') → (U.setCell ⟨X, 0, none⟩ (.int .i64 fd2)).heap[X]? = some (.cells #[.int .i64 fd2, .string sB, .slice none 0 0] 82) ∧ ParsR (U.setCell ⟨X, 0, none⟩ (.int .i64 fd2)) g s q1 d ∧ (U.setCell ⟨X, 0, none⟩ (.int .i64 fd2)).heap[w.heap.size]? = some (.cells #[.int .i64 0, .string ⟨#[]⟩, .slice none 0 0] 82) ∧ Chg (· = g) w (U.setCell ⟨X, 0, none⟩ (.int .i64 fd2)) ∧
            Hid (R = (wd (q1.drop sg.length)).bind fun w r' => .ok (some ⟨fd2, sg, w⟩) r') := by
          intro fd2 hR
          have hX4 := row_set hX3 0 (.int .i64 fd2)
          simp only [List.setIfInBounds_toArray, List.set_cons_zero, List.set_cons_succ] at hX4
          have hCX := setCell_chg U X 0 (.int .i64 fd2)
          exact ⟨hX4, hP5.chg hCX (Ne.symm hXg), row_chg hZ3 hCX hZX, hC6.trans hCX (fun k hk hl => by omega), hR⟩
        have HFIN := Lib.hid fin; clear fin
        cases c60 : sg == [60]
        case true =>
          rw [c60] at e60
          have hR : ∀ fd2, max fd 0 = fd2 → Hid (R = (wd (q1.drop sg.length)).bind fun w r' => .ok (some ⟨fd2, sg, w⟩) r') := fun fd2 h => Lib.hid (by rw [HR.out, c60, h]; rfl)
          clear HR
          rcases hfdr with rfl | hfd0
          · have HF := HFIN.out 0 (hR 0 (by decide))
            clear HFIN hR
            go_wp2_with fail
            go_meet
            exact ⟨_, HF⟩
          · have HF := HFIN.out fd (hR fd (by omega))
            have hmx : max fd 0 = fd := by omega
            clear HFIN hR
            go_wp2_with fail
            go_meet
            exact ⟨_, HF⟩
        case false =>
          rw [c60] at e60
          cases c61 : sg == [60, 38]
          case true =>
            rw [c61] at e61
            have hR : ∀ fd2, max fd 0 = fd2 → Hid (R = (wd (q1.drop sg.length)).bind fun w r' => .ok (some ⟨fd2, sg, w⟩) r') := fun fd2 h => Lib.hid (by rw [HR.out, c60, c61, h]; rfl)
            clear HR
            rcases hfdr with rfl | hfd0
            · have HF := HFIN.out 0 (hR 0 (by decide))
              clear HFIN hR
              go_wp2_with fail
              go_meet
              exact ⟨_, HF⟩
            · have HF := HFIN.out fd (hR fd (by omega))
              have hmx : max fd 0 = fd := by omega
              clear HFIN hR
              go_wp2_with fail
              go_meet
              exact ⟨_, HF⟩
          case false =>
            rw [c61] at e61
            cases c62 : sg == [62]
            case true =>
              rw [c62] at e62
              have hR : ∀ fd2, (if fd < 0 then 1 else fd) = fd2 → Hid (R = (wd (q1.drop sg.length)).bind fun w r' => .ok (some ⟨fd2, sg, w⟩) r') := fun fd2 h => Lib.hid (by rw [HR.out, c60, c61, c62, h]; rfl)
              clear HR
              rcases hfdr with rfl | hfd0
              · have HF := HFIN.out 1 (hR 1 (by decide))
                clear HFIN hR
                go_wp2_with fail
                go_meet
                exact ⟨_, HF⟩
              · have hlt0 : decide (fd < 0) = false := by rw [decide_eq_false_iff_not]; omega
                have hR1 := hR fd (by rw [if_neg (by omega)])
                clear HFIN hR
                go_wp2_with fail
                go_meet
                exact ⟨fd, hX3, hP5, hZ3, hC6, hR1⟩
            case false =>
              rw [c62] at e62
              cases c63 : sg == [62, 62]
              case true =>
                rw [c63] at e63
                have hR : ∀ fd2, (if fd < 0 then 1 else fd) = fd2 → Hid (R = (wd (q1.drop sg.length)).bind fun w r' => .ok (some ⟨fd2, sg, w⟩) r') := fun fd2 h => Lib.hid (by rw [HR.out, c60, c61, c62, c63, h]; rfl)
                clear HR
                rcases hfdr with rfl | hfd0
                · have HF := HFIN.out 1 (hR 1 (by decide))
                  clear HFIN hR
                  go_wp2_with fail
                  go_meet
                  exact ⟨_, HF⟩
                · have hlt0 : decide (fd < 0) = false := by rw [decide_eq_false_iff_not]; omega
                  have hR1 := hR fd (by rw [if_neg (by omega)])
                  clear HFIN hR
                  go_wp2_with fail
                  go_meet
                  exact ⟨fd, hX3, hP5, hZ3, hC6, hR1⟩
              case false =>
                rw [c63] at e63
                cases c64 : sg == [62, 38]
                case true =>
                  rw [c64] at e64
                  have hR : ∀ fd2, (if fd < 0 then 1 else fd) = fd2 → Hid (R = (wd (q1.drop sg.length)).bind fun w r' => .ok (some ⟨fd2, sg, w⟩) r') := fun fd2 h => Lib.hid (by rw [HR.out, c60, c61, c62, c63, c64, h]; rfl)
                  clear HR
                  rcases hfdr with rfl | hfd0
                  · have HF := HFIN.out 1 (hR 1 (by decide))
                    clear HFIN hR
                    go_wp2_with fail
                    go_meet
                    exact ⟨_, HF⟩
                  · have hlt0 : decide (fd < 0) = false := by rw [decide_eq_false_iff_not]; omega
                    have hR1 := hR fd (by rw [if_neg (by omega)])
                    clear HFIN hR
                    go_wp2_with fail
                    go_meet
                    exact ⟨fd, hX3, hP5, hZ3, hC6, hR1⟩
                case false =>
                  rw [c64] at e64
                  have HR2 : Hid (R = .ok none b) := Lib.hid (by rw [HR.out, c60, c61, c62, c63, c64]; rfl)
                  obtain ⟨a5, ha5, _, _, hA5⟩ := hP5.pos
                  obtain ⟨h0, h1, h2, f1, f2, _⟩ := ParsAt.cells hA5
                  have hA6 := hA5.at' (a : Int)
                  have hZ4 := row_far hZ3 (p := ⟨g, 1, none⟩) hZg (.int .i64 (a : Int))
                  have hcZ := row_cells hZ4
                  have hfZ := row_free hZ4
                  have hC7 := hC6.setCell (p := ⟨g, 1, none⟩) (fun _ => rfl) (.int .i64 (a : Int))
                  clear c60 c61 c62 c63 c64 HR HFIN hP5
                  have HA6 := Lib.hid hA6
                  clear hA6 hA5 h0 hcX hfX
                  have hcX := row_cells hX3
                  go_wp2
                  have hCZ : Chg (· = w.heap.size) (U.setCell ⟨g, 1, none⟩ (.int .i64 (a : Int))) ((((U.setCell ⟨g, 1, none⟩ (.int .i64 (a : Int))).setCell ⟨w.heap.size, 0, none⟩ (.int .i64 0)).setCell ⟨w.heap.size, 1, none⟩ (.string ⟨#[]⟩)).setCell ⟨w.heap.size, 2, none⟩ (.slice none 0 0)) := ((setCell_chg _ w.heap.size 0 _).setCell (fun _ => rfl) _).setCell (fun _ => rfl) _
                  refine bodyPost_ret (v := .tuple #[.agg #[.int .i64 0, .string ⟨#[]⟩, .slice none 0 0], .bool false]) (by simp [results, Try.results69, go_sem, hcZ]) rfl ?_
                  rw [HR2.out]
                  exact ⟨_, rfl, rfl, ⟨a, ha, HB.out, HA6.out.chg hCZ (Ne.symm hZg)⟩, hC7.trans hCZ (fun k hk hl => by omega)⟩
      case rest =>
        clear hX3 hP5 hZ3 hC6 HR hcX hfX e60 e61 e62 e63 e64
        obtain ⟨fd2, hX, hP, hZ, hC, HR⟩ := hcut
        obtain ⟨a5, ha5, hqe, hl5, hA5⟩ := hP.pos
        obtain ⟨h0, h1, h2, f1, f2, _⟩ := ParsAt.cells hA5
        have hcX := row_cells hX
        have hb1 : a5 + sg.length ≤ s.size := by omega
        have hA6 := hA5.at' ((a5 : Int) + (sg.length : Int))
        have hX6 := row_far hX (p := ⟨g, 1, none⟩) hXg (.int .i64 ((a5 : Int) + (sg.length : Int)))
        have hZ6 := row_far hZ (p := ⟨g, 1, none⟩) hZg (.int .i64 ((a5 : Int) + (sg.length : Int)))
        have hC6 := hC.setCell (p := ⟨g, 1, none⟩) (fun _ => rfl) (.int .i64 ((a5 : Int) + (sg.length : Int)))
        have hP6 : ParsR (wc.setCell ⟨g, 1, none⟩ (.int .i64 ((a5 : Int) + (sg.length : Int)))) g s (q1.drop sg.length) d := ⟨a5 + sg.length, hb1, by rw [hqe, List.drop_drop], by simpa using hA6⟩
        have hlq2 : (q1.drop sg.length).length ≤ m := by simp; omega
        have p4 : IntKind.i64.wrap ((a5 : Int) + (sg.length : Int)) = (a5 : Int) + (sg.length : Int) := IntWalk.i64_in _ (by omega)
        have hZl : w.heap.size ≤ wc.heap.size := hC.size
        clear hqe hl5 hA5 hA6 hP hbl hsl hl
        go_wp2
        refine still_tail2 10 (by kernel_rfl) (by kernel_rfl) ?_
        simp only [List.take_succ_cons, List.take_zero, List.drop_succ_cons, List.drop_zero]
        repeat still_step
        refine wpStill_nil ?_
        go_wp2_with fail
        clear p4 h0 h1 h2 f1 f2 hcX hX hZ hC
        generalize q1.drop sg.length = q2 at *
        generalize wc.setCell ⟨g, 1, none⟩ (.int .i64 ((a5 : Int) + (sg.length : Int))) = U2 at *
        refine Calls.mono (hc g s q2 _ (hP6.drewN 1) hs hlq2) ?_
        rintro e w7 hp
        rcases ppost_cases hp with ⟨x, r2, v, hXx, rfl, ⟨A, c, rfl, hcs⟩, hP8, hC11⟩ | ⟨l, c, k, hXx, hk, hl, rfl, hC11⟩
        rotate_left
        · go_wp2
          exact ⟨rfl, by rw [HR.out, hXx]; exact ⟨k, hk, hl, rfl, (hC6.drewN 1).trans hC11 (fun _ h _ => h)⟩⟩
        clear hp
        have HR2 : Hid (R = .ok (some ⟨fd2, sg, x⟩) r2) := Lib.hid (by rw [HR.out, hXx]; rfl)
        have hX7 := row_chg (B := (· = g)) (w := U2.drew) hX6 hC11 hXg
        have hZ7 := row_chg (B := (· = g)) (w := U2.drew) hZ6 hC11 hZg
        have hC7 := (hC6.drewN 1).trans hC11 (fun _ h _ => h)
        have hXl : X < U2.heap.size := row_lt hX6
        have HCS := Lib.hid hcs
        have hcX := row_cells hX7
        have hfX := row_free hX7
        have hcZ := row_cells hZ7
        have hfZ := row_free hZ7
        clear hXx HR hX6 hZ6 hC6 hC11 hP6 hcs
        go_wp2
        have hCall : Chg (fun k => k = X ∨ k = w.heap.size) w7 ((((w7.setCell ⟨X, 2, none⟩ (.slice A x.length c)).setCell ⟨w.heap.size, 0, none⟩ (.int .i64 fd2)).setCell ⟨w.heap.size, 1, none⟩ (.string sB)).setCell ⟨w.heap.size, 2, none⟩ (.slice A x.length c)) :=
          ((((Chg.refl _ w7).setCell (fun _ => .inl rfl) _).setCell (fun _ => .inr rfl) _).setCell (fun _ => .inr rfl) _).setCell (fun _ => .inr rfl) _
        have hcZ2 := row_cells (row_chg (B := (· = X)) hZ7 (setCell_chg w7 X 2 (.slice A x.length c)) hZX)
        refine bodyPost_ret (v := .tuple #[.agg #[.int .i64 fd2, .string sB, .slice A x.length c], .bool true]) (by simp [results, Try.results69, go_sem, hcZ2]) rfl ?_
        rw [HR2.out]
        have hZU : w.heap.size ≤ U2.heap.size := by omega
        refine ⟨_, rfl, ⟨[.int .i64 fd2, .string sB, .slice A x.length c], rfl, rdr_rep.2 ⟨_, by rw [HSB.out], ?_⟩⟩, hP8.chg hCall (by omega), hC7.trans hCall (fun k hk hl => by omega)⟩
        exact (HCS.out.stay hCall (fun k hk e => by have hk' : U2.heap.size ≤ k := hk; omega)).mono (fun k hk _ => by have hk' : U2.heap.size ≤ k := hk; omega)
end Go.Proofs.Ytdfnkmiabmjolaa
