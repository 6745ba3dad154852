/- Walks of package word: a parameter in braces. -/
import Derived.Test.YtdfnkmiabmjolaaW11
import Derived.Deep.DeepMust
namespace Go.Proofs.Ytdfnkmiabmjolaa
open Go.RowKit
set_option linter.unusedVariables false
set_option linter.unusedSimpArgs false

theorem lenB_is (l : Bytes) : lenB l = (isAt l 0 35 && decide (1 < l.length) && !isAt l 1 125) := by
  unfold isAt
  match l with
  | [] => rfl
  | [c] => simp [lenB]
  | c :: e :: r =>
    by_cases hc : c = 35
    · subst hc; simp [lenB, bne]
    · have : lenB (c :: e :: r) = false := by
        unfold lenB
        split
        · rename_i h; cases h; exact absurd rfl hc
        · rfl
      rw [this]
      simp [hc]

set_option maxRecDepth 100000 in
set_option maxHeartbeats 8000000 in
theorem param_deep (n : Nat) (w : World) (g : Nat) (s : ByteArray) (a d : Nat) (q : Bool) (h : ScanAt w g s a d) (ha : a + 2 ≤ s.size) (hs : s.size ≤ 8192) (hd : d ≤ 16) (hdeep : 16 < d + 1) :
    Calls Try.prog 49 #[.pointer (some ⟨g, 0, none⟩), .bool q] w (ScanPost w g s d (paramF (n + 1) d q (s.data.toList.drop (a + 2))) (fun _ => False) (PartVal w)) := by
  have hE : paramF (n + 1) d q (s.data.toList.drop (a + 2)) = .err (s.size - a) 63 := by
    rw [paramF, if_pos hdeep, drop_len]; congr 1; omega
  rw [hE]
  clear hE
  obtain ⟨h0, h1, h2, f1, f2, hgl⟩ := h.cells
  have e1 : decide ((16 : Int) < (d : Int) + 1) = true := by simp; omega
  go_enter Try.func49, Try.ntmps49
  go_wp2_with (go_at_call 36; refine (fail_calls _ _ _ _).mono ?_; rintro e w1 ⟨rfl, rfl⟩)
  exact ⟨rfl, a, by omega, rfl, rfl, ((Chg.refl (fun j => j = g ∨ False) _).setCell (fun _ => .inl rfl) _).alloc _⟩

/-- Midway: the scanner, what is handed back (not yet written) and the part that is built. -/
structure ParAt (w wr : World) (g : Nat) (s : ByteArray) (b d : Nat) (q : Bool) (tx op : ByteArray) (v : Value) : Prop where
  scan : ScanAt wr g s b d
  res : wr.heap[w.heap.size]? = some (.cells #[.int .i64 0, .bool false, .string ⟨#[]⟩, .string ⟨#[]⟩, .slice none 0 0] 35)
  part : wr.heap[w.heap.size + 1]? = some (.cells #[.int .i64 2, .bool q, .string tx, .string op, v] 35)
  chg : Chg (fun j => j = g ∨ False) w wr
  old : g < w.heap.size

section
variable {w wr w' : World} {g : Nat} {s : ByteArray} {b d : Nat} {q : Bool} {tx op : ByteArray} {v : Value}
theorem ParAt.drewN (h : ParAt w wr g s b d q tx op v) (n : Nat) : ParAt w (wr.drewN n) g s b d q tx op v := ⟨h.scan, h.res, h.part, h.chg.drewN n, h.old⟩
theorem ParAt.at' (h : ParAt w wr g s b d q tx op v) (b' : Nat) : ParAt w (wr.setCell ⟨g, 1, none⟩ (.int .i64 b')) g s b' d q tx op v :=
  ⟨h.scan.at' _, row_far h.res (fun e => Nat.lt_irrefl _ (e ▸ h.old)) _, row_far h.part (fun e => absurd h.old (by simp at e; omega)) _, h.chg.setCell (fun _ => .inl rfl) _, h.old⟩
theorem ParAt.deep' (h : ParAt w wr g s b d q tx op v) (d' : Nat) : ParAt w (wr.setCell ⟨g, 2, none⟩ (.int .i64 d')) g s b d' q tx op v :=
  ⟨h.scan.deep' _, row_far h.res (fun e => Nat.lt_irrefl _ (e ▸ h.old)) _, row_far h.part (fun e => absurd h.old (by simp at e; omega)) _, h.chg.setCell (fun _ => .inl rfl) _, h.old⟩
theorem ParAt.far (h : ParAt w wr g s b d q tx op v) (j : Nat) (u : Value) : ScanAt (wr.setCell ⟨w.heap.size + 1, j, none⟩ u) g s b d ∧ (wr.setCell ⟨w.heap.size + 1, j, none⟩ u).heap[w.heap.size]? = some (.cells #[.int .i64 0, .bool false, .string ⟨#[]⟩, .string ⟨#[]⟩, .slice none 0 0] 35) ∧ Chg (fun j => j = g ∨ False) w (wr.setCell ⟨w.heap.size + 1, j, none⟩ u) :=
  ⟨row_far h.scan (fun e => Nat.lt_irrefl _ (Nat.lt_of_succ_lt (e ▸ h.old))) _, row_far h.res (by simp) _, h.chg.setCell (fun h => absurd h (by simp)) _⟩
theorem ParAt.text (h : ParAt w wr g s b d q tx op v) (tx' : ByteArray) : ParAt w (wr.setCell ⟨w.heap.size + 1, 2, none⟩ (.string tx')) g s b d q tx' op v :=
  ⟨(h.far _ _).1, (h.far _ _).2.1, row_set h.part _ _, (h.far _ _).2.2, h.old⟩
theorem ParAt.op' (h : ParAt w wr g s b d q tx op v) (op' : ByteArray) : ParAt w (wr.setCell ⟨w.heap.size + 1, 3, none⟩ (.string op')) g s b d q tx op' v :=
  ⟨(h.far _ _).1, (h.far _ _).2.1, row_set h.part _ _, (h.far _ _).2.2, h.old⟩
theorem ParAt.word (h : ParAt w wr g s b d q tx op v) (v' : Value) : ParAt w (wr.setCell ⟨w.heap.size + 1, 4, none⟩ v') g s b d q tx op v' :=
  ⟨(h.far _ _).1, (h.far _ _).2.1, row_set h.part _ _, (h.far _ _).2.2, h.old⟩
theorem ParAt.step (h : ParAt w wr g s b d q tx op v) {b' : Nat} (hA : ScanAt w' g s b' d) (hC : Chg (fun j => j = g ∨ False) wr w') : ParAt w w' g s b' d q tx op v :=
  ⟨hA, row_chg h.res hC (fun e => e.elim (fun e => Nat.lt_irrefl _ (e ▸ h.old)) id), row_chg h.part hC (fun e => e.elim (fun e => Nat.lt_irrefl _ (Nat.lt_of_succ_lt (e ▸ h.old))) id), h.chg.trans hC (fun _ h _ => h), h.old⟩
theorem ParAt.step0 (h : ParAt w wr g s b d q tx op v) (hC : Chg (fun _ => False) wr w') : ParAt w w' g s b d q tx op v := h.step (h.scan.chg hC (fun e => e)) (hC.mono (fun _ h _ => h.elim))
theorem ParAt.start (h : ScanAt w g s b d) (q : Bool) (b' d' : Nat) :
    ParAt w ((((w.setCell ⟨g, 2, none⟩ (.int .i64 d')).setCell ⟨g, 1, none⟩ (.int .i64 b')).alloc (.cells #[.int .i64 0, .bool false, .string ⟨#[]⟩, .string ⟨#[]⟩, .slice none 0 0] 35)).alloc (.cells #[.int .i64 2, .bool q, .string ⟨#[]⟩, .string ⟨#[]⟩, .slice none 0 0] 35)) g s b' d' q ⟨#[]⟩ ⟨#[]⟩ (.slice none 0 0) := by
  refine ⟨row_alloc (row_alloc ((h.deep' _).at' _) _) _, row_alloc ?_ _, ?_, ((((Chg.refl _ _).setCell (fun _ => .inl rfl) _).setCell (fun _ => .inl rfl) _).alloc _).alloc _, h.cells.2.2.2.2.2⟩
  · have := row_new ((w.setCell ⟨g, 2, none⟩ (.int .i64 d')).setCell ⟨g, 1, none⟩ (.int .i64 b')) (.cells #[.int .i64 0, .bool false, .string ⟨#[]⟩, .string ⟨#[]⟩, .slice none 0 0] 35)
    simpa using this
  · have := row_new (((w.setCell ⟨g, 2, none⟩ (.int .i64 d')).setCell ⟨g, 1, none⟩ (.int .i64 b')).alloc (.cells #[.int .i64 0, .bool false, .string ⟨#[]⟩, .string ⟨#[]⟩, .slice none 0 0] 35)) (.cells #[.int .i64 2, .bool q, .string ⟨#[]⟩, .string ⟨#[]⟩, .slice none 0 0] 35)
    simpa using this
end

theorem ScanAt.drewN {w : World} {g : Nat} {s : ByteArray} {a d : Int} (h : ScanAt w g s a d) (n : Nat) : ScanAt (w.drewN n) g s a d := h
section
variable (g : Nat) (s : ByteArray) (a : Nat) (d : Int) (w : World) (h : ScanAt w g s a d) (ha : a ≤ s.size) (hs : s.size ≤ 8192)
include h ha hs
theorem is_hash (b : Bool) (hb : isAt (s.data.toList.drop a) 0 35 = b) : Calls Try.prog 57 #[.pointer (some ⟨g, 0, none⟩), .int .i64 0, .int .u8 35] w fun e w' => e = .returned (.bool b) ∧ ∃ m, w' = w.drewN m :=
  (is_calls g s a d 0 35 w h ha hs (by decide)).mono fun _ _ hh => ⟨by rw [← hb]; exact hh.1, hh.2.imp fun _ e => e.symm⟩
theorem is_brace (b : Bool) (hb : isAt (s.data.toList.drop a) 0 125 = b) : Calls Try.prog 57 #[.pointer (some ⟨g, 0, none⟩), .int .i64 0, .int .u8 125] w fun e w' => e = .returned (.bool b) ∧ ∃ m, w' = w.drewN m :=
  (is_calls g s a d 0 125 w h ha hs (by decide)).mono fun _ _ hh => ⟨by rw [← hb]; exact hh.1, hh.2.imp fun _ e => e.symm⟩
theorem is_brace1 (b : Bool) (hb : isAt (s.data.toList.drop a) 1 125 = b) : Calls Try.prog 57 #[.pointer (some ⟨g, 0, none⟩), .int .i64 1, .int .u8 125] w fun e w' => e = .returned (.bool b) ∧ ∃ m, w' = w.drewN m :=
  (is_calls g s a d 1 125 w h ha hs (by decide)).mono fun _ _ hh => ⟨by rw [← hb]; exact hh.1, hh.2.imp fun _ e => e.symm⟩
end

theorem par_q (t : ByteArray) (k : Nat) (w : World) (ht : t.size ≤ 8192) (hk : parameter t.data.toList = k) : Calls Try.prog 58 #[.string t] w fun e w' => e = .returned (.int .i64 (k : Nat)) ∧ w' = w :=
  (parameter_calls t w (by omega)).mono fun _ _ hh => ⟨by rw [← hk]; exact hh.1, hh.2.symm⟩
set_option maxRecDepth 100000 in
set_option maxHeartbeats 400000 in
theorem param_len (n : Nat) (IH : WordSaid n) (w : World) (g : Nat) (s : ByteArray) (a d : Nat) (q : Bool) (h : ScanAt w g s a d) (ha : a + 2 ≤ s.size) (hs : s.size ≤ 8192) (hd : ¬ 16 < d + 1) (hlen : lenB (s.data.toList.drop (a + 2)) = true) :
    Calls Try.prog 49 #[.pointer (some ⟨g, 0, none⟩), .bool q] w (ScanPost w g s d (paramF (n + 1) d q (s.data.toList.drop (a + 2))) (fun _ => False) (PartVal w)) := by
  generalize hR : paramF (n + 1) d q (s.data.toList.drop (a + 2)) = R
  rw [paramF, if_neg hd, hlen, if_pos rfl, drop_len, List.drop_drop] at hR
  have HR := Lib.hid hR; clear hR
  rw [lenB_is, drop_len] at hlen
  simp only [Bool.and_eq_true, decide_eq_true_eq, Bool.not_eq_true'] at hlen
  obtain ⟨⟨i0, hlt⟩, i1⟩ := hlen
  obtain ⟨h0, h1, h2, f1, f2, hgl⟩ := h.cells
  have e1 : decide ((16 : Int) < (d : Int) + 1) = false := by simp; omega
  have kP := ParAt.start h q (a + 2) (d + 1)
  have e2 : (a : Int) + 2 + 1 < (s.size : Int) := by omega
  have e3 : (a : Int) + 3 < (s.size : Int) := by omega
  go_enter Try.func49, Try.ntmps49
  go_wp2
  simp only [Int.natCast_add, Int.cast_ofNat_Int] at kP
  revert kP
  generalize (((w.setCell ⟨g, 2, none⟩ (.int .i64 ((d : Int) + 1))).setCell ⟨g, 1, none⟩ (.int .i64 ((a : Int) + 2))).alloc (.cells #[.int .i64 0, .bool false, .string ⟨#[]⟩, .string ⟨#[]⟩, .slice none 0 0] 35)).alloc (.cells #[.int .i64 2, .bool q, .string ⟨#[]⟩, .string ⟨#[]⟩, .slice none 0 0] 35) = wr
  intro kP
  clear h0 h1 h2 f1 f2 hgl h
  have hA : ScanAt wr g s ((a + 2 : Nat) : Int) ((d : Int) + 1) := kP.scan
  obtain ⟨h0, h1, h2, f1, f2, hgl⟩ := kP.scan.cells
  have kcl := row_cells kP.part
  have kfr := row_free kP.part
  have kcl0 := row_cells kP.res
  have kfr0 := row_free kP.res
  have hsz := row_lt kP.part
  have hgo := kP.old
  have hn1 : ¬ w.heap.size + 1 = g := by omega
  have hn2 : ¬ g = w.heap.size + 1 := by omega
  have hn3 : ¬ w.heap.size = g := by omega
  have hn4 : ¬ g = w.heap.size := by omega
  have KP := Lib.hid kP; clear kP
  go_quiet ((go_at_call 57; first | with_reducible exact (is_hash g s (a + 2) _ _ (hA.drewN _) ha hs _ i0).quiet_of | with_reducible exact (is_brace1 g s (a + 2) _ _ (hA.drewN _) ha hs _ i1).quiet_of))
  go_wp2
  have kP : ParAt w (((wr.drewN nq).setCell ⟨w.heap.size + 1, 3, none⟩ (.string ⟨#[108, 101, 110]⟩)).setCell ⟨g, 1, none⟩ (.int .i64 ((a : Int) + 2 + 1))) g s (a + 3) (d + 1) q ⟨#[]⟩ ⟨#[108, 101, 110]⟩ (.slice none 0 0) := ((KP.out.drewN nq).op' ⟨#[108, 101, 110]⟩).at' (a + 3)
  clear h0 h1 h2 f1 f2 hgl kcl kfr kcl0 kfr0 hsz hgo hn1 hn2 hn3 hn4 KP
  revert kP
  generalize ((wr.drewN nq).setCell ⟨w.heap.size + 1, 3, none⟩ (.string ⟨#[108, 101, 110]⟩)).setCell ⟨g, 1, none⟩ (.int .i64 ((a : Int) + 2 + 1)) = wr2
  intro kP
  clear hA e2 e3 i0 i1 wr
  have hb0 : a + 3 ≤ s.size := by omega
  have hba : a + 2 ≤ a + 3 := by omega
  clear hlt
  revert kP HR hb0 hba
  rw [show a + 2 + 1 = a + 3 from rfl]
  generalize a + 3 = b
  intro HR kP hb0 hba
  obtain ⟨h0, h1, h2, f1, f2, hgl⟩ := kP.scan.cells
  have kcl := row_cells kP.part
  have kfr := row_free kP.part
  have kcl0 := row_cells kP.res
  have kfr0 := row_free kP.res
  have hsz := row_lt kP.part
  have hgo := kP.old
  have hn1 : ¬ w.heap.size + 1 = g := by omega
  have hn2 : ¬ g = w.heap.size + 1 := by omega
  have hn3 : ¬ w.heap.size = g := by omega
  have hn4 : ¬ g = w.heap.size := by omega
  have KP := Lib.hid kP; clear kP
  generalize hk : parameter (s.data.toList.drop b) = k at HR
  have hkle : b + k ≤ s.size := by have := parameter_le (s.data.toList.drop b); rw [hk, drop_len] at this; omega
  have HK := Lib.hid hk
  have HTP : Hid (parameter (s.extract b s.size).data.toList = k) := Lib.hid (by rw [Lib.extract_to_end]; exact hk)
  clear hk
  have p0 : (0 : Int) ≤ (b : Int) := by omega
  have p1 : (b : Int) ≤ (s.size : Int) := by omega
  have htz : (s.extract b s.size).size ≤ 8192 := by simp [ByteArray.size_extract]; omega
  go_quiet ((go_at_call 58; exact (par_q _ _ _ htz HTP.out).quiet_of_same))
  revert nq; intro nq1
  clear htz p1
  have hgood : (k == 0 || decide (k > 64)) = true ∨ (0 < k ∧ k ≤ 64) := by
    by_cases hh : 0 < k ∧ k ≤ 64
    · exact .inr hh
    · left; simp; omega
  rcases hgood with hbad | ⟨hk0, hk64⟩
  · have HRE : Hid (R = .err (s.size - b) 61) := Lib.hid (by rw [← HR.out, paramG, HK.out, if_pos hbad, drop_len])
    clear HR
    cases hk0 : k == 0
    case true =>
      obtain rfl : k = 0 := by simpa using hk0
      go_wp2_with (go_at_call 36; refine (fail_calls _ _ _ _).mono ?_; rintro e w1 ⟨rfl, rfl⟩)
      refine ⟨rfl, ?_⟩
      rw [HRE.out]
      exact ⟨b, by omega, rfl, rfl, KP.out.chg.drewN _⟩
    case false =>
      have hk1 : ((k : Int) == 0) = false := by simp at hk0 ⊢; omega
      have hk64 : decide ((64 : Int) < (k : Int)) = true := by rw [hk0] at hbad; simp at hbad ⊢; omega
      clear hk0 hbad
      go_wp2_with (go_at_call 36; refine (fail_calls _ _ _ _).mono ?_; rintro e w1 ⟨rfl, rfl⟩)
      refine ⟨rfl, ?_⟩
      rw [HRE.out]
      exact ⟨b, by omega, rfl, rfl, KP.out.chg.drewN _⟩
  · have HF : Hid (finish (s.size - a) q ((s.data.toList.drop b).take k) [108, 101, 110] (.ok [] (s.data.toList.drop (b + k))) = R) := Lib.hid (by
      rw [← HR.out, paramG, HK.out, if_neg (by simp; omega), show s.size - (a + 2) + 2 = s.size - a by omega]
      simp only [Bool.true_or, if_true, List.drop_drop])
    have hk1 : ((k : Int) == 0) = false := by simp; omega
    have hk2 : decide ((64 : Int) < (k : Int)) = false := by simp; omega
    have p1 : (b : Int) ≤ (b : Int) + (k : Int) := by omega
    have p3 : (0 : Int) ≤ (k : Int) := by omega
    have p4 : IntKind.i64.wrap ((b : Int) + (k : Int)) = (b : Int) + (k : Int) := IntWalk.i64_in _ (by omega)
    have p5 : ((b : Int) + (k : Int)).toNat = b + k := by omega
    have p2 : (b : Int) + (k : Int) ≤ (s.size : Int) := by omega
    have hxt := extract_bstr s b (b + k)
    rw [show b + k - b = k by omega] at hxt
    have HXT := Lib.hid hxt; clear hxt
    go_wp2
    refine still_tail2 16 (by kernel_rfl) (by kernel_rfl) ?_
    simp only [List.take_succ_cons, List.take_zero, List.drop_succ_cons, List.drop_zero]
    repeat still_step
    refine wpStill_nil ?_
    go_wp2
    revert HF
    generalize hO : ([108, 101, 110] : Bytes) = O
    intro HF
    have hOl : O.length ≤ 64 := by rw [← hO]; decide
    have HOB : Hid (⟨#[108, 101, 110]⟩ = bstr O) := Lib.hid (by rw [← hO]; rfl)
    clear hO
    have kP : ParAt w (((wr2.drewN (nq1 + 1)).setCell ⟨w.heap.size + 1, 2, none⟩ (.string (s.extract b (b + k)))).setCell ⟨g, 1, none⟩ (.int .i64 ((b : Int) + (k : Int)))) g s (b + k) (d + 1) q (s.extract b (b + k)) ⟨#[108, 101, 110]⟩ (.slice none 0 0) := ((KP.out.drewN (nq1 + 1)).text (s.extract b (b + k))).at' (b + k)
    clear h0 h1 h2 f1 f2 hgl kcl kfr kcl0 kfr0 hsz hgo hn1 hn2 hn3 hn4 KP
    revert kP
    generalize ((wr2.drewN (nq1 + 1)).setCell ⟨w.heap.size + 1, 2, none⟩ (.string (s.extract b (b + k)))).setCell ⟨g, 1, none⟩ (.int .i64 ((b : Int) + (k : Int))) = wr3
    intro kP
    clear p0 p1 p2 p3 p4 p5 hk1 hk2 HTP HK HR e1 wr2
    have hTl : ((s.data.toList.drop b).take k).length ≤ 64 := by simp; omega
    revert hTl
    revert kP
    revert HXT
    revert HF
    generalize s.extract b (b + k) = tx
    generalize (s.data.toList.drop b).take k = T
    obtain ⟨c, hc⟩ : ∃ c, c = b + k := ⟨_, rfl⟩
    rw [← hc] at hkle ⊢
    intro HF HXT kP hTl
    have hac : a + 3 ≤ c := by omega
    clear hc hba hb0 hk0 hk64
    obtain ⟨h0, h1, h2, f1, f2, hgl⟩ := kP.scan.cells
    have kcl := row_cells kP.part
    have kfr := row_free kP.part
    have kcl0 := row_cells kP.res
    have kfr0 := row_free kP.res
    have hsz := row_lt kP.part
    have hgo := kP.old
    have hn1 : ¬ w.heap.size + 1 = g := by omega
    have hn2 : ¬ g = w.heap.size + 1 := by omega
    have hn3 : ¬ w.heap.size = g := by omega
    have hn4 : ¬ g = w.heap.size := by omega
    have KP := Lib.hid kP; clear kP
    go_quiet (fail)
    generalize hl : ([] : List Part) = l at HF
    have HV : Rep wr3 (fun j => w.heap.size + 2 ≤ j) (.sl 35 5 (Part.ds l)) [.slice none 0 0] := by rw [← hl]; exact (Own.nil _ _ _ _).rep
    have hwl : Part.wts l ≤ 20000 := by rw [← hl]; simp [Part.wts]
    clear hl
    go_wp2
    have t0 : (0 : Int) ≤ (c : Int) := by omega
    go_quiet (fail)
    by_cases hend : c = s.size
    · have t1 : ((c : Int) == (s.size : Int)) = true := by simp; omega
      go_wp2_with (go_at_call 36; refine (fail_calls _ _ _ _).mono ?_; rintro e w1 ⟨rfl, rfl⟩)
      refine ⟨rfl, ?_⟩
      rw [← HF.out, drop_end s c (by omega)]
      exact ⟨a, by omega, rfl, rfl, ((KP.out.chg.drewN _).mono (fun _ h _ => h))⟩
    · have t1 : ((c : Int) == (s.size : Int)) = false := by simp; omega
      have hclt : c < s.size := by omega
      have hHB : isAt (s.data.toList.drop c) 0 125 = (s[c] == 125) := by rw [byte_drop s c hclt]; rfl
      have HFE : Hid (R = if s[c] == 125 then .ok (allB (.mk 2 q T O l) q) (s.data.toList.drop (c + 1)) else .err (s.size - c) 61) := Lib.hid (by
        rw [← HF.out, byte_drop s c hclt]
        simp only [finish, drop_len]
        split
        · rfl
        · rw [show s.size - (c + 1) + 1 = s.size - c by omega])
      clear HF
      have hA := KP.out.scan
      go_wp2_with fail
      cases hbr : s[c] == 125
      case false =>
        rw [hbr] at hHB
        refine Calls.mono (is_brace g s c _ _ (hA.drewN _) (by omega) hs _ hHB) ?_
        rintro e w' ⟨rfl, m, rfl⟩
        go_wp2_with (go_at_call 36; refine (fail_calls _ _ _ _).mono ?_; rintro e w1 ⟨rfl, rfl⟩)
        refine ⟨rfl, ?_⟩
        rw [HFE.out, hbr]
        exact ⟨c, by omega, rfl, rfl, KP.out.chg.drewN _⟩
      case true =>
        rw [hbr] at hHB
        refine Calls.mono (is_brace g s c _ _ (hA.drewN _) (by omega) hs _ hHB) ?_
        rintro e w' ⟨rfl, m, rfl⟩
        go_wp2_with fail
        have hrep : Rep wr3 (fun j => w.heap.size + 2 ≤ j) (Part.d (.mk 2 q T O l)) [.int .i64 2, .bool q, .string tx, .string ⟨#[108, 101, 110]⟩, (.slice none 0 0)] := part_rep.2 ⟨_, by rw [HXT.out, HOB.out], HV⟩
        refine (all_calls _ (fun j => w.heap.size + 2 ≤ j) (.mk 2 q T O l) q [.int .i64 2, .bool q, .string tx, .string ⟨#[108, 101, 110]⟩, (.slice none 0 0)] (by simp only [Part.wt]; omega) ?_).mono ?_
        · exact hrep.stay ((((Chg.refl (· = g) _).drewN _).setCell (fun _ => rfl) _).setCell (fun _ => rfl) _) (fun j h e => by omega)
        · rintro e w4 ⟨cs', rfl, hr', hC'⟩
          have kP4 : ParAt w w4 g s (c + 1) d q tx ⟨#[108, 101, 110]⟩ (.slice none 0 0) := ParAt.step0 (((KP.out.drewN _).at' (c + 1)).deep' d) hC'
          have hz : wr3.heap.size ≤ w4.heap.size := by simpa using hC'.size
          have HR1 : Hid (R = .ok (allB (.mk 2 q T O l) q) (s.data.toList.drop (c + 1))) := Lib.hid (by rw [HFE.out, if_pos hbr])
          clear HFE
          revert hr' HR1
          generalize allB (.mk 2 q T O l) q = pp
          obtain ⟨kd, qd, td, od, wd⟩ := pp
          intro hr' HR1
          obtain ⟨A', c', rfl, hwv, _, _⟩ := part_rep2 hr'
          have HREP := Lib.hid hr'; clear hr'
          clear h0 h1 h2 f1 f2 hgl kcl kfr kcl0 kfr0 KP hHB hbr hA
          have kcl0 := row_cells kP4.res
          have kfr0 := row_free kP4.res
          have hlt0 := row_lt kP4.res
          have KP := Lib.hid kP4; clear kP4
          go_wp2
          refine bodyPost_ret (v := .agg #[.int .i64 kd, .bool qd, .string (bstr td), .string (bstr od), .slice A' wd.length c']) (by simp [results, Try.results49, go_sem, kcl0]) rfl ?_
          rw [HR1.out]
          refine ⟨_, c + 1, rfl, hclt, rfl, ⟨_, rfl, ?_⟩, ?_, ?_⟩
          · refine (HREP.out.stay (((((((Chg.refl (fun j => j = w.heap.size) _).setCell (fun _ => rfl) _).setCell (fun _ => rfl) _).setCell (fun _ => rfl) _).setCell (fun _ => rfl) _).setCell (fun _ => rfl) _)) (fun j hj e => ?_)).mono (fun j hj _ => ?_)
            · simp at hj; omega
            · simp at hj; omega
          · exact row_far (row_far (row_far (row_far (row_far KP.out.scan hn4 _) hn4 _) hn4 _) hn4 _) hn4 _
          · exact ((((KP.out.chg.setCell (fun h => absurd h (by simp)) _).setCell (fun h => absurd h (by simp)) _).setCell (fun h => absurd h (by simp)) _).setCell (fun h => absurd h (by simp)) _).setCell (fun h => absurd h (by simp)) _
end Go.Proofs.Ytdfnkmiabmjolaa
