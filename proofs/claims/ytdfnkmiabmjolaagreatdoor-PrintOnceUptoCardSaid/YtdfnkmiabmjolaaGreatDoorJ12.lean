/- simple. And what stands with it. -/
import Derived.Test.YtdfnkmiabmjolaaGreatDoorJ11
set_option linter.unusedVariables false
set_option linter.unusedSimpArgs false
namespace Go.Proofs.YtdfnkmiabmjolaaGreatDoor
open Go.RowKit
def smRest (wd : Bytes → Rs (List Part)) (fn : Bytes → Bytes → Rs Cmd) (n : Nat) (xs : List Asg) (ws : List (List Part)) (rs : List Rdr) (b : Bytes) : Rs Cmd :=
 if (xs.length + ws.length + rs.length == 0) && closing (peek b).1 then failS (blanks b) 61
 else if sgn b != [] || (blanks b).isEmpty then (if (xs.length + ws.length + rs.length == 0) then failS (blanks b) 61 else .ok (.mk 1 [] xs ws [] [] [] [] rs) (blanks b))
 else if (xs.length + ws.length + rs.length == 0) && nameB (peek b).1 && (peek b).2.head? == some 40 then fn (peek b).1 ((peek b).2.drop 1)
 else (wd (blanks b)).bind fun l b' => match assigned l, ws.isEmpty with
  | some a, true => simpleF wd fn n (xs ++ [a]) ws rs b'
  | _, _ => simpleF wd fn n xs (ws ++ [l]) rs b'
def smNext (wd : Bytes → Rs (List Part)) (fn : Bytes → Bytes → Rs Cmd) (n : Nat) (xs : List Asg) (ws : List (List Part)) (rs : List Rdr) (o : Option Rdr) (b : Bytes) : Rs Cmd := match o with
 | some x => simpleF wd fn n xs ws (rs ++ [x]) b
 | none => smRest wd fn n xs ws rs b
theorem simpleF_eq (wd : Bytes → Rs (List Part)) (fn : Bytes → Bytes → Rs Cmd) (n : Nat) (xs : List Asg) (ws : List (List Part)) (rs : List Rdr) (r : Bytes) : simpleF wd fn (n + 1) xs ws rs r = (redirP wd r).bind fun o b => smNext wd fn n xs ws rs o b := by rw [simpleF]; rfl
abbrev sCells (A1 : Option Addr) (L1 c1 : Nat) (A2 : Option Addr) (L2 c2 : Nat) (A3 : Option Addr) (L3 c3 : Nat) : Array Value := #[.int .i64 1, .string ⟨#[]⟩, .slice A1 L1 c1, .slice A2 L2 c2, .slice none 0 0, .slice none 0 0, .slice none 0 0, .slice none 0 0, .slice A3 L3 c3]
def SmRel (wd : Bytes → Rs (List Part)) (fn : Bytes → Bytes → Rs Cmd) (w : World) (g X : Nat) (s : ByteArray) (d : Nat) (R : Rs Cmd) (m : Nat) (k : Nat) (wr : World) : Prop :=
 ∃ (xs : List Asg) (ws : List (List Part)) (rs : List Rdr) (r : Bytes) (f : Nat) (A1 : Option Addr) (c1 L1 : Nat) (A2 : Option Addr) (c2 L2 : Nat) (A3 : Option Addr) (c3 L3 : Nat) (S1 S2 S3 : Nat → Prop), xs.length = L1 ∧ ws.length = L2 ∧ rs.length = L3 ∧ Hid (R = simpleF wd fn f xs ws rs r) ∧ ParsR wr g s r d ∧ r.length < f ∧ r.length ≤ k ∧ r.length ≤ m ∧
  L1 + k ≤ 8193 ∧ L2 + k ≤ 8193 ∧ L3 + k ≤ 8193 ∧ wr.heap[X]? = some (.cells (sCells A1 L1 c1 A2 L2 c2 A3 L3 c3) 49) ∧ Row wr X X 72 2 (.slice A1 L1 c1) (xs.map Asg.d) S1 ∧ Row wr X X 70 1 (.slice A2 L2 c2) (ws.map wordD) S2 ∧ Row wr X X 75 3 (.slice A3 L3 c3) (rs.map Rdr.d) S3 ∧
  (∀ k, S1 k → ¬ S2 k) ∧ (∀ k, S1 k → ¬ S3 k) ∧ (∀ k, S2 k → ¬ S3 k) ∧ Chg (· = g) w wr ∧ wr.heap[w.heap.size]? = some (.cells zCmd 49)
theorem isAsg_form {T : Nat → Prop} {o : Option Asg} {v : Value} {w' : World} (h : isAsg T o v w') : ∃ z0 z1 z2 z3, v = .tuple #[.agg #[.string z0, .slice z1 z2 z3], .bool o.isSome] ∧ ∀ x, o = some x → Rep w' T x.d [.string z0, .slice z1 z2 z3] := by
 cases o with
 | none => exact ⟨_, _, _, _, h, fun x e => by cases e⟩
 | some x =>
  obtain ⟨cs, rfl, hr⟩ := h
  obtain ⟨o, A, n, c, rfl⟩ := asg_form hr
  exact ⟨_, _, _, _, rfl, fun y e => by cases e; exact hr⟩
theorem skip_at {P : Program} {md : Region.Mode} {ops : Array Oper} {Q : Exit → Act → World → Prop} {S : World → Prop} {fuel : Nat} {listed : Array Bool} {a : Act} {w : World} (i t : Nat) (hi : i < ops.size) (hd : (ops[i]'hi).dst = some t) (hw : Region.wanted (ops[i]'hi) (yielded ops a.tmps) = false)
  (hs : Region.noSelect ops = true) (hf : Region.free md ops listed i = true) (hr : (Region.ready md ops listed).contains i = true)
  (hQ : ∀ c a v w, Q (.panic c) (a.put (some t) v) w → Q (.panic c) a w) (hS : S w)
  (h : wpAnyH P md ops Q S fuel (listed.setIfInBounds i true) (a.put (some t) undef) w) : wpAnyH P md ops Q S (fuel + 1) listed a w :=
 wpAnyH_take (Array.getElem?_eq_getElem hi) hs hf hr (by rw [hd]; exact fun c a w => hQ c a undef w) (Or.inr ⟨hw, rfl⟩) hS (by rw [hd]; exact h)
theorem take_at {P : Program} {md : Region.Mode} {ops : Array Oper} {Q : Exit → Act → World → Prop} {S : World → Prop} {fuel : Nat} {listed : Array Bool} {a : Act} {w : World} (i t : Nat) (v : Value) (hi : i < ops.size) (hd : (ops[i]'hi).dst = some t) (hw : Region.wanted (ops[i]'hi) (yielded ops a.tmps) = true)
  (hrun : ∀ w, S w → (execOp a.eval (ops[i]'hi)).run P w = .ok (.value v) w)
  (hs : Region.noSelect ops = true) (hf : Region.free md ops listed i = true) (hr : (Region.ready md ops listed).contains i = true)
  (hQ : ∀ c a v w, Q (.panic c) (a.put (some t) v) w → Q (.panic c) a w) (hS : S w)
  (h : wpAnyH P md ops Q S fuel (listed.setIfInBounds i true) (a.put (some t) v) w) : wpAnyH P md ops Q S (fuel + 1) listed a w :=
 wpAnyH_take (Array.getElem?_eq_getElem hi) hs hf hr (by rw [hd]; exact fun c a w => hQ c a v w) (Or.inl ⟨hw, hrun⟩) hS (by rw [hd]; exact h)
set_option maxRecDepth 100000 in
set_option maxHeartbeats 4000000 in
theorem simple_calls (wd : Bytes → Rs (List Part)) (fn : Bytes → Bytes → Rs Cmd) (d : Nat) (m : Nat) (hwd : WdSaid wd d m) (hlt : Lt wd) (hwt : ∀ r l r', wd r = .ok l r' → Part.wts l ≤ 2 * r.length + 1)
  (hfn : ∀ (name : Bytes) (g : Nat) (s : ByteArray) (r : Bytes) (w : World), ParsR w g s r d → s.size ≤ 8192 → r.length ≤ m → Calls Tryz.prog 122 #[.pointer (some ⟨g, 0, none⟩), .string (bstr name)] w (PPost w g s d (fn name r) (isCmd w)))
  (n : Nat) (g : Nat) (s : ByteArray) (r : Bytes) (w : World) (h : ParsR w g s r d) (hs : s.size ≤ 8192) (hm : r.length ≤ m) (hn : r.length ≤ n) :
  Calls Tryz.prog 99 #[.pointer (some ⟨g, 0, none⟩)] w (PPost w g s d (simpleF wd fn (n + 1) [] [] [] r) (isCmd w)) := by
 have hgl := h.lt
 have hrl := h.len
 generalize hR : simpleF wd fn (n + 1) [] [] [] r = R
 have HR := Lib.hid hR.symm; clear hR
 go_enter Tryz.func99, Tryz.ntmps99
 have hZ0 := row_new w (.cells zCmd 49)
 have hX0 := row_new (w.alloc (.cells zCmd 49)) (.cells (sCells none 0 0 none 0 0 none 0 0) 49)
 have hCa : Chg (fun _ => False) w ((w.alloc (.cells zCmd 49)).alloc (.cells (sCells none 0 0 none 0 0 none 0 0) 49)) := ((Chg.refl _ w).alloc _).alloc _
 have hCb : Chg (fun _ => False) (w.alloc (.cells zCmd 49)) ((w.alloc (.cells zCmd 49)).alloc (.cells (sCells none 0 0 none 0 0 none 0 0) 49)) := (Chg.refl _ _).alloc _
 have hP0 := h.chg hCa (fun e => e)
 have hZ1 := row_chg hZ0 hCb (fun e => e)
 have hC0 : Chg (· = g) w ((w.alloc (.cells zCmd 49)).alloc (.cells (sCells none 0 0 none 0 0 none 0 0) 49)) := hCa.mono (fun _ h _ => h.elim)
 simp only [World.size_alloc] at hX0
 go_wp2
 clear hCa hCb hZ0
 generalize (w.alloc (.cells zCmd 49)).alloc (.cells (sCells none 0 0 none 0 0 none 0 0) 49) = U at *
 have hs0 : w.heap.size < w.heap.size + 1 := Nat.lt_succ_self _
 obtain ⟨X, hXe⟩ : ∃ X, X = w.heap.size + 1 := ⟨_, rfl⟩
 rw [← hXe] at hX0 hs0 ⊢
 go_loopg [] r.length (fun k wr => SmRel wd fn w g X s d R m k wr)
 case atStart => exact ⟨[], [], [], r, _, none, 0, 0, none, 0, 0, none, 0, 0, _, _, _, rfl, rfl, rfl, HR, hP0, by omega, Nat.le_refl _, hm, by omega, by omega, by omega, hX0, Row.none _ _ _ _ _, Row.none _ _ _ _ _, Row.none _ _ _ _ _, fun _ h => h.elim, fun _ h => h.elim, fun _ h => h.elim, hC0, hZ1⟩
 case round =>
  clear HR hP0 hX0 hC0 hZ1 hXe
  obtain ⟨xs, ws, rs, r1, f, A1, c1, L1, A2, c2, L2, A3, c3, L3, S1, S2, S3, hL1, hL2, hL3, HR, hP, hf, hk1, hm1, hB1, hB2, hB3, hX, hR1, hR2, hR3, h12, h13, h23, hC, hZ⟩ := hrel
  obtain ⟨fm, rfl⟩ : ∃ n, f = n + 1 := ⟨f - 1, by omega⟩
  have HR1 : Hid (R = (redirP wd r1).bind fun o b => smNext wd fn fm xs ws rs o b) := Lib.hid (by rw [HR.out, simpleF_eq])
  clear HR
  go_wp2_with fail
  refine Calls.mono (redir_calls wd d m hwd g s r1 _ hP hs hm1) ?_
  rintro e w2 hp
  rcases ppost_cases hp with ⟨o, b, v, hXo, rfl, ho, hP1, hC1⟩ | ⟨le, ce, ke, hXo, hke, hle', rfl, hC1⟩
  rotate_left
  ·go_wp2
   exact ⟨rfl, by rw [HR1.out, hXo]; exact ⟨ke, hke, hle', rfl, hC.trans hC1 (fun _ h _ => h)⟩⟩
  clear hp
  obtain ⟨y0, y1, y2, y3, y4, rfl, hy⟩ := isRdr_form ho
  have hX1 := row_chg hX hC1 (by omega)
  have hZ1 := row_chg hZ hC1 (by omega)
  have hC2 := hC.trans hC1 (fun _ h _ => h)
  have hR11 := hR1.stay hC1 (fun k h1 h2 h3 e => by omega)
  have hR21 := hR2.stay hC1 (fun k h1 h2 h3 e => by omega)
  have hR31 := hR3.stay hC1 (fun k h1 h2 h3 e => by omega)
  have hS1l := hR1.lt
  have hS2l := hR2.lt
  have hS3l := hR3.lt
  have hN := hC1.size
  have hXN : X < wr.heap.size := row_lt hX
  clear hX hZ hC hC1 hR1 hR2 hR3 hP
  have hY1 := row_new w2 (.cells #[.int .i64 y0, .string y1, .slice y2 y3 y4] 75)
  have hCa : Chg (fun _ => False) w2 (w2.alloc (.cells #[.int .i64 y0, .string y1, .slice y2 y3 y4] 75)) := (Chg.refl _ w2).alloc _
  have hP2 := hP1.chg hCa (fun e => e)
  have hX2 := row_chg hX1 hCa (fun e => e)
  have hZ2 := row_chg hZ1 hCa (fun e => e)
  have hC3 := hC2.trans hCa (fun _ h _ => h.elim)
  have hR12 := hR11.apart hCa (fun _ _ e => e)
  have hR22 := hR21.apart hCa (fun _ _ e => e)
  have hR32 := hR31.apart hCa (fun _ _ e => e)
  have hUs : (w2.alloc (.cells #[.int .i64 y0, .string y1, .slice y2 y3 y4] 75)).heap.size = w2.heap.size + 1 := by simp
  have hN2 : wr.heap.size ≤ w2.heap.size + 1 := by omega
  have hsd : w.heap.size < X := hs0
  cases o with
  | some x =>
   have hlt1 := redir_lt hlt hXo
   have HR2 : Hid (R = simpleF wd fn fm xs ws (rs ++ [x]) b) := Lib.hid (by rw [HR1.out, hXo]; rfl)
   have HY2 := Lib.hid ((hy x rfl).bound.stay hCa (fun _ _ e => e))
   clear HR1 hXo ho hy hCa hP1 hX1 hZ1 hC2 hR11 hR21 hR31
   simp only [Option.isSome_some]
   have hcX := row_cells hX2
   have hfX := row_free hX2
   have hcY := row_cells hY1
   go_wp2_with (at_builtin; go_must (refine row_append X X S3 wr.heap.size rfl _ _ _ _ _ 3 48 rfl Tryz.underlying47 info_Redir rfl (by decide) (by decide) (.slice A3 L3 c3) (rs.map Rdr.d) x.d _ rfl (by simp [Act.eval]) (HY2.out.mono (fun k hk _ => hk.1)) rfl (by omega) hXN hXN hR32 hS3l (by rw [List.length_map]; omega) ?_))
   intro A4 c4 w3 S4 hR4 hSS hC4
   have e1 : (rs.map Rdr.d).length + 1 = (rs ++ [x]).length := by simp
   have e2 : rs.map Rdr.d ++ [x.d] = (rs ++ [x]).map Rdr.d := by simp
   rw [e2] at hR4
   try rw [e1] at hR4
   try rw [e1]
   have e3 : (rs ++ [x]).length = L3 + 1 := by simp [hL3]
   try rw [e3] at hR4
   try rw [e3]
   have HL4 := Lib.hid e3
   generalize hL4 : L3 + 1 = L4 at *
   have hX3 := row_chg hX2 hC4 (fun h => (hR32.2 X h).2.1 rfl)
   have hcX := row_cells hX3
   have hfX := row_free hX3
   have hZ3 := row_chg hZ2 hC4 (fun h => by have := (hR32.2 _ h).1; omega)
   have hP3 := hP2.chg hC4 (fun h => by have := (hR32.2 _ h).1; omega)
   have hC5 := hC3.trans hC4 (fun k hk hl => by have := (hR32.2 _ hk).1; omega)
   have hR14 := hR12.apart hC4 h13
   have hR24 := hR22.apart hC4 h23
   have h14 : ∀ k, S1 k → ¬ S4 k := fun k hk h4 => (hSS k h4).elim (h13 k hk) (fun h => by have := hS1l k hk; omega)
   have h24 : ∀ k, S2 k → ¬ S4 k := fun k hk h4 => (hSS k h4).elim (h23 k hk) (fun h => by have := hS2l k hk; omega)
   have hCX := setCell_chg w3 X 8 (.slice A4 L4 c4)
   have hX4 := row_set hX3 8 (.slice A4 L4 c4)
   have hZ4 := row_chg hZ3 hCX (by omega)
   have hP4 := hP3.chg hCX (by omega)
   have hC6 := hC5.trans hCX (fun k hk hl => by omega)
   have hR15 := hR14.apart hCX (fun k hk e => (hR14.2 k hk).2.1 e)
   have hR25 := hR24.apart hCX (fun k hk e => (hR24.2 k hk).2.1 e)
   have hR45 := hR4.apart hCX (fun k hk e => (hR4.2 k hk).2.1 e)
   simp only [sCells, List.setIfInBounds_toArray, List.set_cons_zero, List.set_cons_succ] at hX4
   clear hX2 hZ2 hP2 hC3 hC4 hR12 hR22 hR32 hR4 hSS hX3 hZ3 hP3 hC5 hR14 hR24 HY2 hY1 hcY e1 e2 e3 hUs
   go_wp2
   go_roundg b.length
   case measure => omega
   case rel => exact ⟨xs, ws, rs ++ [x], b, fm, _, _, _, _, _, _, _, _, _, S1, S2, S4, hL1, hL2, by rw [HL4.out], HR2, hP4, by omega, Nat.le_refl _, by omega, by omega, by omega, by omega, hX4, hR15, hR25, hR45, h12, h14, h24, hC6, hZ4⟩
  | none =>
   have hb := redir_none hXo
   have HR2 : Hid (R = smRest wd fn fm xs ws rs b) := Lib.hid (by rw [HR1.out, hXo]; rfl)
   have hbb : blanks b = b := by rw [hb, blanks_idem]
   have hbl : b.length ≤ r1.length := by rw [hb]; exact blanks_le r1
   clear HR1 hXo ho hy hCa hP1 hX1 hZ1 hC2 hR11 hR21 hR31 hb hY1
   simp only [Option.isSome_none]
   have hcX := row_cells hX2
   have b0 : IntKind.i64.wrap ((L1 : Int) + (L2 : Int)) = (L1 : Int) + (L2 : Int) := IntWalk.i64_in _ (by omega)
   have b1 : IntKind.i64.wrap ((L1 : Int) + (L2 : Int) + (L3 : Int)) = (L1 : Int) + (L2 : Int) + (L3 : Int) := IntWalk.i64_in _ (by omega)
   obtain ⟨f0, hf0⟩ : ∃ f0, ((L1 : Int) + (L2 : Int) + (L3 : Int) == 0) = f0 := ⟨_, rfl⟩
   have HF0 : Hid ((xs.length + ws.length + rs.length == 0) = f0) := Lib.hid (by rw [← hf0, hL1, hL2, hL3, Bool.eq_iff_iff]; simp; omega)
   go_wp2_with fail
   clear hcX b0 b1 hf0
   generalize w2.alloc (.cells #[.int .i64 y0, .string y1, .slice y2 y3 y4] 75) = U at *
   refine Calls.mono (peek_calls g s b d U hP2 hs) ?_
   rintro e w3 ⟨pn, rfl, hpn, hP3, hC4⟩
   rw [hbb] at hP3
   have hX3 := row_chg hX2 hC4 (by omega)
   have hZ3 := row_chg hZ2 hC4 (by omega)
   have hC5 := hC3.trans hC4 (fun _ h _ => h)
   have hR13 := hR12.stay hC4 (fun k h1 h2 h3 e => by omega)
   have hR23 := hR22.stay hC4 (fun k h1 h2 h3 e => by omega)
   have hR33 := hR32.stay hC4 (fun k h1 h2 h3 e => by omega)
   have hN3 : wr.heap.size ≤ w3.heap.size := by have := hC4.size; omega
   have HPN := Lib.hid hpn
   obtain ⟨pq, hpq⟩ : ∃ pq, (peek b).2 = pq := ⟨_, rfl⟩
   have HPQ := Lib.hid hpq; clear hpq
   rw [HPQ.out] at HPN
   generalize hpx : (peek b).1 = px at *
   have HPX := Lib.hid hpx
   obtain ⟨cl, hcl⟩ : ∃ cl, closing px = cl := ⟨_, rfl⟩
   have HCL := Lib.hid hcl
   clear hX2 hZ2 hC3 hC4 hR12 hR22 hR32 hP2 hN2 hUs hpn hcl hpx
   go_upto_region 7 with fail
   go_cut [46] (fun fv wx => fv = .bool (f0 && cl) ∧ wx = w3)
   case first =>
    cases f0
    case false =>
     go_wp2
     go_meet
     exact ⟨rfl, rfl⟩
    case true =>
     go_wp2_with fail
     refine Calls.mono (closing_calls px w3) ?_
     rintro e w4 ⟨rfl, rfl⟩
     rw [HCL.out]
     go_wp2
     go_meet
     exact ⟨rfl, rfl⟩
   case rest =>
    obtain ⟨hfv, hw⟩ := hcut
    subst hfv
    rw [hw]
    clear hw
    obtain ⟨a, ha, hbe, hl, hA⟩ := hP3.pos
    have HB := Lib.hid hbe
    cases hst : (f0 && cl)
    case true =>
     have HR3 : Hid (R = failS b 61) := Lib.hid (by rw [HR2.out, smRest, HF0.out, HPX.out, HCL.out, hst, if_pos rfl, hbb])
     obtain ⟨h0, h1, h2, f1, f2, _⟩ := hA.cells
     clear hst HF0 HCL hl hbe hR13 hR23 hR33 hX3 hZ3 HR2
     go_wp2_with fail
     refine Calls.mono (fail_at g s b d _ 61 w _ a a HB.out ha hA hC5 (isCmd w)) ?_
     rintro e w4 ⟨⟨c4, rfl⟩, hpost, rfl⟩
     go_wp2
     rw [HR3.out]
     exact ⟨rfl, hpost⟩
    case false =>
     obtain ⟨be, hbe2⟩ : ∃ be, b.isEmpty = be := ⟨_, rfl⟩
     have hea : ((a : Int) == (s.size : Int)) = be := by
      rw [← hbe2, Bool.eq_iff_iff, List.isEmpty_iff_length_eq_zero, hl]
      simp; omega
     have hea' : (a == s.size) = be := by
      rw [← hea, Bool.eq_iff_iff]; simp; try omega
     have hSg0 : ∀ w', ParsAt w' g s a d → Calls Tryz.prog 56 #[.pointer (some ⟨g, 0, none⟩)] w' (fun e w'' => e = .returned (.string (bstr (sgn b))) ∧ ParsAt w'' g s a d ∧ Chg (· = g) w' w'') := by
      intro w' h'
      refine (sign_calls g s b d w' ⟨a, ha, hbe, h'⟩ hs).mono ?_
      rintro e w'' ⟨h1, h2, h3⟩
      rw [hbb] at h2
      obtain ⟨a', ha', _, hl', hA'⟩ := h2.pos
      have : a' = a := by omega
      exact ⟨h1, this ▸ hA', h3⟩
     have HR3 : Hid (R = if sgn b != [] || be then (if f0 then failS b 61 else .ok (.mk 1 [] xs ws [] [] [] [] rs) b) else if f0 && nameB px && pq.head? == some 40 then fn px (pq.drop 1) else
       (wd b).bind fun l b' => match assigned l, ws.isEmpty with
        | some a, true => simpleF wd fn fm (xs ++ [a]) ws rs b'
        | _, _ => simpleF wd fn fm xs (ws ++ [l]) rs b') := Lib.hid (by rw [HR2.out, smRest, HF0.out, HPX.out, HCL.out, hst, HPQ.out, hbb, hbe2]; rfl)
     clear hst HR2 HCL hl hbe hbe2
     have he0 : (bstr (sgn b)).toList.isEmpty = (sgn b == []) := by rw [ByteArray.toList_eq, bstr_toList]; cases sgn b <;> rfl
     generalize hsg : sgn b = sg at *
     generalize bstr sg = sB at *
     obtain ⟨h0, h1, h2, f1, f2, _⟩ := hA.cells
     clear hsg
     go_upto_region 9 with fail
     go_cut [67] (fun fv wx => fv = .bool (sg != [] || be) ∧ ParsAt wx g s a d ∧ Chg (· = g) w3 wx)
     case first =>
      cases hq : sg == []
      case true =>
       rw [hq] at he0
       have HRr : Hid ((sg != [] || be) = be) := Lib.hid (by simp [bne, hq])
       clear hq
       go_wp2
       go_region_held3 (fun w' => w'.cell? ⟨g, 0, none⟩ = some (.string s) ∧ w'.cell? ⟨g, 1, none⟩ = some (.int .i64 a))
        (first
         | go_keep
         | (go_split_ands; exact ⟨hA2.cells.1, hA2.cells.2.1⟩))
        (first
         | (go_at_call 56; refine (hSg0 _ (hA.drewN 1)).mono ?_; rintro e w4 ⟨rfl, hA2, hC6⟩))
       go_wp2
       go_meet
       exact ⟨by rw [HRr.out], hA2, ((Chg.refl (· = g) w3).drewN 1).trans hC6 (fun _ h _ => h)⟩
      case false =>
       rw [hq] at he0
       have HRr : Hid ((sg != [] || be) = true) := Lib.hid (by simp [bne, hq])
       clear hq
       go_wp2
       refine wp_region_held_drew (S := fun _ => True) (by kernel_rfl) trivial (fun hHeld => ?_)
       refine take_at 0 53 (.pointer (some ⟨g, 0, none⟩)) (by decide) (by kernel_rfl) (by kernel_rfl) (fun w _ => by go_simp) (by kernel_rfl) (by kernel_rfl) (by kernel_rfl) (fun _ _ _ _ h => h) (by assumption) ?_
       simp only [Act.put, List.setIfInBounds_toArray, List.set_cons_zero, List.set_cons_succ]
       refine wpAnyH_ready (rs := [1]) (by kernel_rfl) (by simp) ?_
       refine AllReadyH.cons rfl (fun K hK => ?_) AllReadyH.nil
       go_simp
       refine (hSg0 _ (hA.drewN 1)).mono ?_
       rintro e w4 ⟨rfl, hA2, hC6⟩
       go_simp
       refine hK.out _ _ trivial (fun hHeld => ?_)
       clear hK K
       try simp only [Act.put, List.setIfInBounds_toArray, List.set_cons_zero, List.set_cons_succ]
       refine take_at 2 55 (.bool true) (by decide) (by kernel_rfl) (by kernel_rfl) (fun w _ => by go_simp) (by kernel_rfl) (by kernel_rfl) (by kernel_rfl) (fun _ _ _ _ h => h) (by assumption) ?_
       simp only [Act.put, List.setIfInBounds_toArray, List.set_cons_zero, List.set_cons_succ]
       refine take_at 3 56 (.bool true) (by decide) (by kernel_rfl) (by kernel_rfl) (fun w _ => by go_simp) (by kernel_rfl) (by kernel_rfl) (by kernel_rfl) (fun _ _ _ _ h => h) (by assumption) ?_
       simp only [Act.put, List.setIfInBounds_toArray, List.set_cons_zero, List.set_cons_succ]
       refine skip_at 4 57 (by decide) (by kernel_rfl) (by kernel_rfl) (by kernel_rfl) (by kernel_rfl) (by kernel_rfl) (fun _ _ _ _ h => h) (by assumption) ?_
       simp only [Act.put, List.setIfInBounds_toArray, List.set_cons_zero, List.set_cons_succ]
       refine skip_at 5 58 (by decide) (by kernel_rfl) (by kernel_rfl) (by kernel_rfl) (by kernel_rfl) (by kernel_rfl) (fun _ _ _ _ h => h) (by assumption) ?_
       simp only [Act.put, List.setIfInBounds_toArray, List.set_cons_zero, List.set_cons_succ]
       refine skip_at 6 59 (by decide) (by kernel_rfl) (by kernel_rfl) (by kernel_rfl) (by kernel_rfl) (by kernel_rfl) (fun _ _ _ _ h => h) (by assumption) ?_
       simp only [Act.put, List.setIfInBounds_toArray, List.set_cons_zero, List.set_cons_succ]
       refine skip_at 7 60 (by decide) (by kernel_rfl) (by kernel_rfl) (by kernel_rfl) (by kernel_rfl) (by kernel_rfl) (fun _ _ _ _ h => h) (by assumption) ?_
       simp only [Act.put, List.setIfInBounds_toArray, List.set_cons_zero, List.set_cons_succ]
       refine skip_at 8 61 (by decide) (by kernel_rfl) (by kernel_rfl) (by kernel_rfl) (by kernel_rfl) (by kernel_rfl) (fun _ _ _ _ h => h) (by assumption) ?_
       simp only [Act.put, List.setIfInBounds_toArray, List.set_cons_zero, List.set_cons_succ]
       refine skip_at 9 62 (by decide) (by kernel_rfl) (by kernel_rfl) (by kernel_rfl) (by kernel_rfl) (by kernel_rfl) (fun _ _ _ _ h => h) (by assumption) ?_
       simp only [Act.put, List.setIfInBounds_toArray, List.set_cons_zero, List.set_cons_succ]
       refine skip_at 10 63 (by decide) (by kernel_rfl) (by kernel_rfl) (by kernel_rfl) (by kernel_rfl) (by kernel_rfl) (fun _ _ _ _ h => h) (by assumption) ?_
       simp only [Act.put, List.setIfInBounds_toArray, List.set_cons_zero, List.set_cons_succ]
       refine skip_at 11 64 (by decide) (by kernel_rfl) (by kernel_rfl) (by kernel_rfl) (by kernel_rfl) (by kernel_rfl) (fun _ _ _ _ h => h) (by assumption) ?_
       simp only [Act.put, List.setIfInBounds_toArray, List.set_cons_zero, List.set_cons_succ]
       refine skip_at 12 65 (by decide) (by kernel_rfl) (by kernel_rfl) (by kernel_rfl) (by kernel_rfl) (by kernel_rfl) (fun _ _ _ _ h => h) (by assumption) ?_
       simp only [Act.put, List.setIfInBounds_toArray, List.set_cons_zero, List.set_cons_succ]
       refine skip_at 13 66 (by decide) (by kernel_rfl) (by kernel_rfl) (by kernel_rfl) (by kernel_rfl) (by kernel_rfl) (fun _ _ _ _ h => h) (by assumption) ?_
       simp only [Act.put, List.setIfInBounds_toArray, List.set_cons_zero, List.set_cons_succ]
       refine take_at 14 67 (.bool true) (by decide) (by kernel_rfl) (by kernel_rfl) (fun w _ => by go_simp) (by kernel_rfl) (by kernel_rfl) (by kernel_rfl) (fun _ _ _ _ h => h) (by assumption) ?_
       simp only [Act.put, List.setIfInBounds_toArray, List.set_cons_zero, List.set_cons_succ]
       refine wpAnyH_done (by kernel_rfl) ?_ _
       go_wp2
       go_meet
       exact ⟨by rw [HRr.out], hA2, ((Chg.refl (· = g) w3).drewN 1).trans hC6 (fun _ h _ => h)⟩
     case rest =>
      obtain ⟨hfv, hA2, hC6⟩ := hcut
      subst hfv
      have hX4 := row_chg hX3 hC6 (by omega)
      have hZ4 := row_chg hZ3 hC6 (by omega)
      have hC7 := hC5.trans hC6 (fun _ h _ => h)
      have hR14 := hR13.stay hC6 (fun k h1 h2 h3 e => by omega)
      have hR24 := hR23.stay hC6 (fun k h1 h2 h3 e => by omega)
      have hR34 := hR33.stay hC6 (fun k h1 h2 h3 e => by omega)
      have hN4 : wr.heap.size ≤ wc.heap.size := by have := hC6.size; omega
      have hP4 : ParsR wc g s b d := ⟨a, ha, HB.out, hA2⟩
      clear hSg0 he0 hea hea' h0 h1 h2 f1 f2 hX3 hZ3 hC5 hC6 hR13 hR23 hR33 hN3 hP3 hA
      obtain ⟨h0, h1, h2, f1, f2, _⟩ := hA2.cells
      generalize wc = V at *
      cases hstp : (sg != [] || be)
      case true =>
       cases f0
       case true =>
        have HR4 : Hid (R = failS b 61) := Lib.hid (by rw [HR3.out, hstp]; rfl)
        clear HR3 hstp hX4 hZ4 hR14 hR24 hR34
        go_wp2_with fail
        refine Calls.mono (fail_at g s b d _ 61 w _ a a HB.out ha hA2 hC7 (isCmd w)) ?_
        rintro e w4 ⟨⟨c4, rfl⟩, hpost, rfl⟩
        go_wp2
        rw [HR4.out]
        exact ⟨rfl, hpost⟩
       case false =>
        have HR4 : Hid (R = .ok (.mk 1 [] xs ws [] [] [] [] rs) b) := Lib.hid (by rw [HR3.out, hstp]; rfl)
        clear HR3 hstp
        have hcX := row_cells hX4
        have hcZ := row_cells hZ4
        have hfZ := row_free hZ4
        go_wp2
        have hC9 := chg9 V w.heap.size (.int .i64 1) (.string ⟨#[]⟩) (.slice A1 L1 c1) (.slice A2 L2 c2) (.slice none 0 0) (.slice none 0 0) (.slice none 0 0) (.slice none 0 0) (.slice A3 L3 c3)
        refine bodyPost_ret (v := .agg (sCells A1 L1 c1 A2 L2 c2 A3 L3 c3)) (by simp [results, Tryz.results99, go_sem, hcZ]) rfl ?_
        rw [HR4.out]
        refine ⟨_, rfl, ⟨[.int .i64 1, .string ⟨#[]⟩, .slice A1 L1 c1, .slice A2 L2 c2, .slice none 0 0, .slice none 0 0, .slice none 0 0, .slice none 0 0, .slice A3 L3 c3], rfl, cmd_rep.2 ⟨_, _, _, _, _, _, _, rfl, ?_, ?_, rep_nil _ _ _ _, rep_nil _ _ _ _, rep_nil _ _ _ _, rep_nil _ _ _ _, ?_⟩⟩, hP4.chg hC9 (by omega), hC7.trans hC9 (fun k hk hl => by omega)⟩
        ·exact (hR14.apart hC9 (fun k hk e => by have := (hR14.2 k hk).1; omega)).rep.mono (fun k hk _ => by omega)
        ·exact (hR24.apart hC9 (fun k hk e => by have := (hR24.2 k hk).1; omega)).rep.mono (fun k hk _ => by omega)
        ·exact (hR34.apart hC9 (fun k hk e => by have := (hR34.2 k hk).1; omega)).rep.mono (fun k hk _ => by omega)
      case false =>
       obtain ⟨nb, hnb⟩ : ∃ nb, nameB px = nb := ⟨_, rfl⟩
       have HR4 : Hid (R = if f0 && nb && pq.head? == some 40 then fn px (pq.drop 1) else
        (wd b).bind fun l b' => match assigned l, ws.isEmpty with
        | some a, true => simpleF wd fn fm (xs ++ [a]) ws rs b'
        | _, _ => simpleF wd fn fm xs (ws ++ [l]) rs b') := Lib.hid (by rw [HR3.out, hstp, hnb]; rfl)
       have hnm : nameB (bstr px).data.toList = nb := by rw [bstr_toList, hnb]
       have hpxl : (bstr px).size ≤ 140737488355328 := by
        have := peek_len b
        rw [HPX.out] at this
        rw [bstr_size]
        have := hP4.len
        omega
       have HNB : Hid (nb = true → pn ≤ s.size ∧ pq = s.data.toList.drop pn ∧ pq.length ≤ b.length) := Lib.hid (fun h => by
        have hne : px ≠ [] := by rintro rfl; rw [← hnb] at h; simp [nameB] at h
        obtain ⟨h1, h2⟩ := HPN.out hne
        refine ⟨h1, h2, ?_⟩
        have := peek_lt (r := b) (by rw [HPX.out]; exact hne)
        rw [HPQ.out, hbb] at this
        omega)
       obtain ⟨hq, hhq⟩ : ∃ hq, (pq.head? == some 40) = hq := ⟨_, rfl⟩
       have HHQ := Lib.hid hhq
       rw [hhq] at HR4
       clear HR3 hstp HPN HPX hnb hhq
       go_upto_region 13 with fail
       go_cut [89] (fun fv wx => fv = .bool (f0 && nb && hq) ∧ wx = V)
       case first =>
        cases f0
        case false =>
         go_wp2
         go_meet
         exact ⟨rfl, rfl⟩
        case true =>
         go_wp2_with fail
         refine Calls.mono (name_calls (bstr px) V hpxl) ?_
         rintro e w4 ⟨rfl, rfl⟩
         rw [hnm]
         cases nb
         case false =>
          clear hnm
          go_wp2
          go_meet
          exact ⟨rfl, rfl⟩
         case true =>
          obtain ⟨hp1, hp2, _⟩ := HNB.out rfl
          have HP2 := Lib.hid hp2
          have p0 : (0 : Int) ≤ (pn : Int) := by omega
          have p1 : (pn : Int) ≤ (s.size : Int) := by omega
          clear hnm hp2
          go_wp2_with fail
          refine Calls.mono (prefix_calls _ _ hq _ (by rw [Lib.extract_to_end, ← HP2.out, ← HHQ.out]; cases pq with | nil => rfl | cons x l => rw [Bool.eq_iff_iff]; simp [Lib.hasPrefix, List.isPrefixOf]; exact eq_comm)) ?_
          rintro e w4 ⟨rfl, rfl⟩
          go_wp2
          go_meet
          exact ⟨rfl, rfl⟩
       case rest =>
        obtain ⟨hfv, hw⟩ := hcut
        subst hfv
        rw [hw]
        clear hw hnm hpxl
        cases hfb : (f0 && nb && hq)
        case true =>
         have HR5 : Hid (R = fn px (pq.drop 1)) := Lib.hid (by rw [HR4.out, hfb]; rfl)
         simp only [Bool.and_eq_true] at hfb
         obtain ⟨hp1, hp2, hp3⟩ := HNB.out hfb.1.2
         have hqt := HHQ.out
         rw [hfb.2] at hqt
         have hne : 1 ≤ pq.length := by
          cases pq with
          | nil => simp at hqt
          | cons x l => simp
         have hpl : pq.length = s.size - pn := by rw [hp2]; exact drop_len _ _
         have hp4 : pn + 1 ≤ s.size := by omega
         have hdr : pq.drop 1 = s.data.toList.drop (pn + 1) := by rw [hp2, List.drop_drop]
         have hdl : (pq.drop 1).length ≤ m := by rw [List.length_drop]; omega
         have r0 : IntKind.i64.wrap ((pn : Int) + 1) = (pn : Int) + 1 := IntWalk.i64_in _ (by omega)
         have hA3 : ParsAt (V.setCell ⟨g, 1, none⟩ (.int .i64 ((pn : Int) + 1))) g s ((pn : Int) + 1) d := hA2.at' _
         have hP5 : ParsR (V.setCell ⟨g, 1, none⟩ (.int .i64 ((pn : Int) + 1))) g s (pq.drop 1) d := ⟨pn + 1, hp4, hdr, hA3⟩
         have hC8 := hC7.setCell (p := ⟨g, 1, none⟩) (fun _ => rfl) (.int .i64 ((pn : Int) + 1))
         have hZ5 := row_far hZ4 (p := ⟨g, 1, none⟩) (by simp; omega) (.int .i64 ((pn : Int) + 1))
         have hVs : (V.setCell ⟨g, 1, none⟩ (.int .i64 ((pn : Int) + 1))).heap.size = V.heap.size := by simp
         have hVX : w.heap.size < V.heap.size := by have := row_lt hX4; omega
         clear HR4 hfb hp1 hp2 hp3 hqt hne hpl hdr hX4 hZ4 hR14 hR24 hR34 hC7 HNB HHQ hA3 hP4
         go_wp2_with fail
         refine Calls.mono (hfn px g s (pq.drop 1) _ hP5 hs hdl) ?_
         rintro e w5 hp
         rcases ppost_cases hp with ⟨x, r4, v, hXx, rfl, ⟨cs, rfl, hcs⟩, hP6, hC9⟩ | ⟨le, ce, ke, hXx, hke, hle', rfl, hC9⟩
         rotate_left
         ·go_wp2
          exact ⟨rfl, by rw [HR5.out, hXx]; exact ⟨ke, hke, hle', rfl, hC8.trans hC9 (fun _ h _ => h)⟩⟩
         clear hp
         obtain ⟨kk, nn, E1, n1, e1, E2, n2, e2, E3, n3, e3, E4, n4, e4, E5, n5, e5, E6, n6, e6, E7, n7, e7, rfl⟩ := cmd_form hcs
         have HR6 : Hid (R = .ok x r4) := Lib.hid (by rw [HR5.out, hXx])
         have hZ6 := row_chg hZ5 hC9 (by omega)
         have hC10 := hC8.trans hC9 (fun _ h _ => h)
         have HCS := Lib.hid hcs
         have hcZ := row_cells hZ6
         have hfZ := row_free hZ6
         clear HR5 hXx hcs hZ5 hC8 hC9 hP5 r0 h0 h1 h2 f1 f2 hA2
         go_wp2
         have hC11 := chg9 w5 w.heap.size (.int .i64 kk) (.string nn) (.slice E1 n1 e1) (.slice E2 n2 e2) (.slice E3 n3 e3) (.slice E4 n4 e4) (.slice E5 n5 e5) (.slice E6 n6 e6) (.slice E7 n7 e7)
         refine bodyPost_ret (v := .agg #[.int .i64 kk, .string nn, .slice E1 n1 e1, .slice E2 n2 e2, .slice E3 n3 e3, .slice E4 n4 e4, .slice E5 n5 e5, .slice E6 n6 e6, .slice E7 n7 e7]) (by simp [results, Tryz.results99, go_sem, hcZ]) rfl ?_
         rw [HR6.out]
         refine ⟨_, rfl, ⟨[.int .i64 kk, .string nn, .slice E1 n1 e1, .slice E2 n2 e2, .slice E3 n3 e3, .slice E4 n4 e4, .slice E5 n5 e5, .slice E6 n6 e6, .slice E7 n7 e7], rfl, ?_⟩, hP6.chg hC11 (by omega), hC10.trans hC11 (fun k hk hl => by omega)⟩
         exact (HCS.out.stay hC11 (fun k hk e => by have hk' : (V.setCell ⟨g, 1, none⟩ (.int .i64 ((pn : Int) + 1))).heap.size ≤ k := hk; omega)).mono (fun k hk _ => by have hk' : (V.setCell ⟨g, 1, none⟩ (.int .i64 ((pn : Int) + 1))).heap.size ≤ k := hk; omega)
        case false =>
         have HR5 : Hid (R = (wd b).bind fun l b' => match assigned l, ws.isEmpty with
          | some a, true => simpleF wd fn fm (xs ++ [a]) ws rs b'
          | _, _ => simpleF wd fn fm xs (ws ++ [l]) rs b') := Lib.hid (by rw [HR4.out, hfb]; rfl)
         clear HR4 hfb HNB HHQ h0 h1 h2 f1 f2 hA2
         go_wp2_with fail
         refine Calls.mono (hwd g s b _ hP4 hs (by omega)) ?_
         rintro e w5 hp
         rcases ppost_cases hp with ⟨l, r5, v, hXl, rfl, ⟨A5, c5, rfl, hO⟩, hP5, hC8⟩ | ⟨le, ce, ke, hXl, hke, hle', rfl, hC8⟩
         rotate_left
         ·go_wp2
          exact ⟨rfl, by rw [HR5.out, hXl]; exact ⟨ke, hke, hle', rfl, hC7.trans hC8 (fun _ h _ => h)⟩⟩
         clear hp
         have hr5 := hlt.lt hXl
         have hwl := hwt _ _ _ hXl
         have HR6 : Hid (R = match assigned l, ws.isEmpty with
          | some a, true => simpleF wd fn fm (xs ++ [a]) ws rs r5
          | _, _ => simpleF wd fn fm xs (ws ++ [l]) rs r5) := Lib.hid (by rw [HR5.out, hXl]; rfl)
         have hll : l.length ≤ 20000 := by have := Part.length_le l; have := hP5.len; have := hP4.len; omega
         have hlt1 : ∀ k q t o wd l', l = .mk k q t o wd :: l' → t.length ≤ 20000 := by
          rintro k q t o wd l' rfl
          simp only [Part.wts, Part.wt] at hwl
          have := hP4.len
          omega
         have hX5 := row_chg hX4 hC8 (by omega)
         have hZ5 := row_chg hZ4 hC8 (by omega)
         have hC9 := hC7.trans hC8 (fun _ h _ => h)
         have hR15 := hR14.stay hC8 (fun k h1 h2 h3 e => by omega)
         have hR25 := hR24.stay hC8 (fun k h1 h2 h3 e => by omega)
         have hR35 := hR34.stay hC8 (fun k h1 h2 h3 e => by omega)
         have hN5 : wr.heap.size ≤ w5.heap.size := by have := hC8.size; omega
         have hO5 := (hO.bound).mono (S' := fun k => wr.heap.size ≤ k ∧ k < w5.heap.size) (fun k hk _ => ⟨by have := hk.1; omega, hk.2⟩)
         clear HR5 hXl hwl hX4 hZ4 hC7 hC8 hR14 hR24 hR34 hP4 hO
         go_wp2_with fail
         refine Calls.mono (assigned_calls l _ w5 _ hll hlt1 hO5) ?_
         rintro e w6 ⟨⟨ra, rfl, hra⟩, hC10⟩
         obtain ⟨z0, z1, z2, z3, rfl, hz⟩ := isAsg_form hra
         have hX6 := row_chg hX5 hC10 (fun e => e)
         have hZ6 := row_chg hZ5 hC10 (fun e => e)
         have hP6 := hP5.chg hC10 (fun e => e)
         have hC11 := hC9.trans hC10 (fun _ h _ => h.elim)
         have hR16 := hR15.apart hC10 (fun _ _ e => e)
         have hR26 := hR25.apart hC10 (fun _ _ e => e)
         have hR36 := hR35.apart hC10 (fun _ _ e => e)
         have hO6 := hO5.stay hC10 (fun _ _ e => e)
         have hN6 : wr.heap.size ≤ w6.heap.size := by have := hC10.size; omega
         clear hra hX5 hZ5 hP5 hC9 hR15 hR25 hR35 hO5 hC10 hll hlt1
         have hY1 := row_new w6 (.cells #[.string z0, .slice z1 z2 z3] 72)
         have hCa : Chg (fun _ => False) w6 (w6.alloc (.cells #[.string z0, .slice z1 z2 z3] 72)) := (Chg.refl _ w6).alloc _
         have hX7 := row_chg hX6 hCa (fun e => e)
         have hZ7 := row_chg hZ6 hCa (fun e => e)
         have hP7 := hP6.chg hCa (fun e => e)
         have hC12 := hC11.trans hCa (fun _ h _ => h.elim)
         have hR17 := hR16.apart hCa (fun _ _ e => e)
         have hR27 := hR26.apart hCa (fun _ _ e => e)
         have hR37 := hR36.apart hCa (fun _ _ e => e)
         have hO7 := (hO6.stay hCa (fun _ _ e => e)).mono (S' := fun k => wr.heap.size ≤ k) (fun k hk _ => hk.1)
         have HZ7 : Hid (∀ x, assigned l = some x → Rep (w6.alloc (.cells #[.string z0, .slice z1 z2 z3] 72)) (fun k => wr.heap.size ≤ k) x.d [.string z0, .slice z1 z2 z3]) := Lib.hid (fun x hx => ((hz x hx).stay hCa (fun _ _ e => e)).mono (fun k hk _ => by rcases hk with hk | hk <;> omega))
         have HO7 := Lib.hid hO7
         have hUs2 : (w6.alloc (.cells #[.string z0, .slice z1 z2 z3] 72)).heap.size = w6.heap.size + 1 := by simp
         have hN7 : wr.heap.size ≤ w6.heap.size + 1 := by omega
         clear hCa hX6 hZ6 hP6 hC11 hR16 hR26 hR36 hO6 hz hO7
         obtain ⟨ob, hob⟩ : ∃ ob, (assigned l).isSome = ob := ⟨_, rfl⟩
         rw [hob]
         have hcX := row_cells hX7
         have hfX := row_free hX7
         have hcY := row_cells hY1
         have HOB := Lib.hid hob
         obtain ⟨we, hwe⟩ : ∃ we, ((L2 : Int) == 0) = we := ⟨_, rfl⟩
         have HWE : Hid (ws.isEmpty = we) := Lib.hid (by rw [← hwe, Bool.eq_iff_iff, List.isEmpty_iff_length_eq_zero, hL2]; simp)
         clear hob
         cases ob
         case false =>
          have HR7 : Hid (R = simpleF wd fn fm xs (ws ++ [l]) rs r5) := Lib.hid (by
           rw [HR6.out]
           have := HOB.out
           cases hq : assigned l with
           | none => cases ws.isEmpty <;> rfl
           | some x => rw [hq] at this; cases this)
          clear HR6 HOB HWE hwe HZ7
          go_wp2_with (at_builtin; go_must (refine row_append X X S2 wr.heap.size rfl _ _ _ _ _ 1 24 rfl Tryz.underlying45 info_Parts rfl (by decide) (by decide) (.slice A2 L2 c2) (ws.map wordD) (wordD l) _ rfl (by simp [Act.eval]) HO7.out rfl (by omega) hXN hXN hR27 hS2l (by rw [List.length_map]; omega) ?_))
          intro A4 c4 w7 S4 hR4 hSS hC13
          have e1 : (ws.map wordD).length + 1 = (ws ++ [l]).length := by simp
          have e2 : ws.map wordD ++ [wordD l] = (ws ++ [l]).map wordD := by simp
          rw [e2] at hR4
          try rw [e1] at hR4
          try rw [e1]
          have e3 : (ws ++ [l]).length = L2 + 1 := by simp [hL2]
          try rw [e3] at hR4
          try rw [e3]
          have HL4 := Lib.hid e3
          generalize hL4 : L2 + 1 = L4 at *
          have hX8 := row_chg hX7 hC13 (fun h => (hR27.2 X h).2.1 rfl)
          have hcX := row_cells hX8
          have hfX := row_free hX8
          have hZ8 := row_chg hZ7 hC13 (fun h => by have := (hR27.2 _ h).1; omega)
          have hP8 := hP7.chg hC13 (fun h => by have := (hR27.2 _ h).1; omega)
          have hC14 := hC12.trans hC13 (fun k hk hl => by have := (hR27.2 _ hk).1; omega)
          have hR18 := hR17.apart hC13 h12
          have hR38 := hR37.apart hC13 (fun k h3 h2 => h23 k h2 h3)
          have h14 : ∀ k, S1 k → ¬ S4 k := fun k h1 h4 => (hSS k h4).elim (h12 k h1) (fun h => by have := hS1l k h1; omega)
          have h43 : ∀ k, S4 k → ¬ S3 k := fun k h4 h3 => (hSS k h4).elim (fun h2 => h23 k h2 h3) (fun h => by have := hS3l k h3; omega)
          have hCX := setCell_chg w7 X 3 (.slice A4 L4 c4)
          have hX9 := row_set hX8 3 (.slice A4 L4 c4)
          have hZ9 := row_chg hZ8 hCX (by omega)
          have hP9 := hP8.chg hCX (by omega)
          have hC15 := hC14.trans hCX (fun k hk hl => by omega)
          have hR19 := hR18.apart hCX (fun k hk e => (hR18.2 k hk).2.1 e)
          have hR39 := hR38.apart hCX (fun k hk e => (hR38.2 k hk).2.1 e)
          have hR49 := hR4.apart hCX (fun k hk e => (hR4.2 k hk).2.1 e)
          simp only [sCells, List.setIfInBounds_toArray, List.set_cons_zero, List.set_cons_succ] at hX9
          clear hX7 hZ7 hP7 hC12 hC13 hR17 hR27 hR37 hR4 hSS hX8 hZ8 hP8 hC14 hR18 hR38 HO7 hY1 hcY e1 e2 e3 hUs2
          go_wp2
          go_roundg r5.length
          case measure => omega
          case rel => exact ⟨xs, ws ++ [l], rs, r5, fm, _, _, _, _, _, _, _, _, _, S1, S4, S3, hL1, by rw [HL4.out], hL3, HR7, hP9, by omega, Nat.le_refl _, by omega, by omega, by omega, by omega, hX9, hR19, hR49, hR39, h14, h13, h43, hC15, hZ9⟩
         case true =>
          cases we
          case false =>
           have HR7 : Hid (R = simpleF wd fn fm xs (ws ++ [l]) rs r5) := Lib.hid (by
            rw [HR6.out, HWE.out]
            cases assigned l <;> rfl)
           clear HR6 HOB HWE HZ7
           go_wp2_with (at_builtin; go_must (refine row_append X X S2 wr.heap.size rfl _ _ _ _ _ 1 24 rfl Tryz.underlying45 info_Parts rfl (by decide) (by decide) (.slice A2 L2 c2) (ws.map wordD) (wordD l) _ rfl (by simp [Act.eval]) HO7.out rfl (by omega) hXN hXN hR27 hS2l (by rw [List.length_map]; omega) ?_))
           intro A4 c4 w7 S4 hR4 hSS hC13
           have e1 : (ws.map wordD).length + 1 = (ws ++ [l]).length := by simp
           have e2 : ws.map wordD ++ [wordD l] = (ws ++ [l]).map wordD := by simp
           rw [e2] at hR4
           try rw [e1] at hR4
           try rw [e1]
           have e3 : (ws ++ [l]).length = L2 + 1 := by simp [hL2]
           try rw [e3] at hR4
           try rw [e3]
           have HL4 := Lib.hid e3
           generalize hL4 : L2 + 1 = L4 at *
           have hX8 := row_chg hX7 hC13 (fun h => (hR27.2 X h).2.1 rfl)
           have hcX := row_cells hX8
           have hfX := row_free hX8
           have hZ8 := row_chg hZ7 hC13 (fun h => by have := (hR27.2 _ h).1; omega)
           have hP8 := hP7.chg hC13 (fun h => by have := (hR27.2 _ h).1; omega)
           have hC14 := hC12.trans hC13 (fun k hk hl => by have := (hR27.2 _ hk).1; omega)
           have hR18 := hR17.apart hC13 h12
           have hR38 := hR37.apart hC13 (fun k h3 h2 => h23 k h2 h3)
           have h14 : ∀ k, S1 k → ¬ S4 k := fun k h1 h4 => (hSS k h4).elim (h12 k h1) (fun h => by have := hS1l k h1; omega)
           have h43 : ∀ k, S4 k → ¬ S3 k := fun k h4 h3 => (hSS k h4).elim (fun h2 => h23 k h2 h3) (fun h => by have := hS3l k h3; omega)
           have hCX := setCell_chg w7 X 3 (.slice A4 L4 c4)
           have hX9 := row_set hX8 3 (.slice A4 L4 c4)
           have hZ9 := row_chg hZ8 hCX (by omega)
           have hP9 := hP8.chg hCX (by omega)
           have hC15 := hC14.trans hCX (fun k hk hl => by omega)
           have hR19 := hR18.apart hCX (fun k hk e => (hR18.2 k hk).2.1 e)
           have hR39 := hR38.apart hCX (fun k hk e => (hR38.2 k hk).2.1 e)
           have hR49 := hR4.apart hCX (fun k hk e => (hR4.2 k hk).2.1 e)
           simp only [sCells, List.setIfInBounds_toArray, List.set_cons_zero, List.set_cons_succ] at hX9
           clear hX7 hZ7 hP7 hC12 hC13 hR17 hR27 hR37 hR4 hSS hX8 hZ8 hP8 hC14 hR18 hR38 HO7 hY1 hcY e1 e2 e3 hUs2
           go_wp2
           go_roundg r5.length
           case measure => omega
           case rel => exact ⟨xs, ws ++ [l], rs, r5, fm, _, _, _, _, _, _, _, _, _, S1, S4, S3, hL1, by rw [HL4.out], hL3, HR7, hP9, by omega, Nat.le_refl _, by omega, by omega, by omega, by omega, hX9, hR19, hR49, hR39, h14, h13, h43, hC15, hZ9⟩
          case true =>
           obtain ⟨xa, hxa⟩ := Option.isSome_iff_exists.1 HOB.out
           have HR7 : Hid (R = simpleF wd fn fm (xs ++ [xa]) ws rs r5) := Lib.hid (by rw [HR6.out, HWE.out, hxa])
           have HXA := Lib.hid (HZ7.out xa hxa)
           clear HR6 HOB HWE HZ7 hxa HO7
           go_wp2_with (at_builtin; go_must (refine row_append X X S1 wr.heap.size rfl _ _ _ _ _ 2 40 rfl Tryz.underlying44 info_Assign rfl (by decide) (by decide) (.slice A1 L1 c1) (xs.map Asg.d) xa.d _ rfl (by simp [Act.eval]) HXA.out rfl (by omega) hXN hXN hR17 hS1l (by rw [List.length_map]; omega) ?_))
           intro A4 c4 w7 S4 hR4 hSS hC13
           have e1 : (xs.map Asg.d).length + 1 = (xs ++ [xa]).length := by simp
           have e2 : xs.map Asg.d ++ [xa.d] = (xs ++ [xa]).map Asg.d := by simp
           rw [e2] at hR4
           try rw [e1] at hR4
           try rw [e1]
           have e3 : (xs ++ [xa]).length = L1 + 1 := by simp [hL1]
           try rw [e3] at hR4
           try rw [e3]
           have HL4 := Lib.hid e3
           generalize hL4 : L1 + 1 = L4 at *
           have hX8 := row_chg hX7 hC13 (fun h => (hR17.2 X h).2.1 rfl)
           have hcX := row_cells hX8
           have hfX := row_free hX8
           have hZ8 := row_chg hZ7 hC13 (fun h => by have := (hR17.2 _ h).1; omega)
           have hP8 := hP7.chg hC13 (fun h => by have := (hR17.2 _ h).1; omega)
           have hC14 := hC12.trans hC13 (fun k hk hl => by have := (hR17.2 _ hk).1; omega)
           have hR28 := hR27.apart hC13 (fun k h2 h1 => h12 k h1 h2)
           have hR38 := hR37.apart hC13 (fun k h3 h1 => h13 k h1 h3)
           have h42 : ∀ k, S4 k → ¬ S2 k := fun k h4 h2 => (hSS k h4).elim (fun h1 => h12 k h1 h2) (fun h => by have := hS2l k h2; omega)
           have h43 : ∀ k, S4 k → ¬ S3 k := fun k h4 h3 => (hSS k h4).elim (fun h1 => h13 k h1 h3) (fun h => by have := hS3l k h3; omega)
           have hCX := setCell_chg w7 X 2 (.slice A4 L4 c4)
           have hX9 := row_set hX8 2 (.slice A4 L4 c4)
           have hZ9 := row_chg hZ8 hCX (by omega)
           have hP9 := hP8.chg hCX (by omega)
           have hC15 := hC14.trans hCX (fun k hk hl => by omega)
           have hR29 := hR28.apart hCX (fun k hk e => (hR28.2 k hk).2.1 e)
           have hR39 := hR38.apart hCX (fun k hk e => (hR38.2 k hk).2.1 e)
           have hR49 := hR4.apart hCX (fun k hk e => (hR4.2 k hk).2.1 e)
           simp only [sCells, List.setIfInBounds_toArray, List.set_cons_zero, List.set_cons_succ] at hX9
           clear hX7 hZ7 hP7 hC12 hC13 hR17 hR27 hR37 hR4 hSS hX8 hZ8 hP8 hC14 hR28 hR38 HXA hY1 hcY e1 e2 e3 hUs2
           go_wp2
           go_roundg r5.length
           case measure => omega
           case rel => exact ⟨xs ++ [xa], ws, rs, r5, fm, _, _, _, _, _, _, _, _, _, S4, S2, S3, by rw [HL4.out], hL2, hL3, HR7, hP9, by omega, Nat.le_refl _, by omega, by omega, by omega, by omega, hX9, hR49, hR29, hR39, h42, h43, h23, hC15, hZ9⟩
end Go.Proofs.YtdfnkmiabmjolaaGreatDoor
