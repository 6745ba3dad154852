/- Walks of package word: 'all'. And what stands with it. -/
import Derived.Test.YtdfnkmiabmjolaaGreatDoorJ4
import Derived.Deep.LoopGhost
set_option linter.unusedVariables false
set_option linter.unusedSimpArgs false
namespace Go.Proofs.YtdfnkmiabmjolaaGreatDoor
open Go.RowKit
theorem allP_wt (n : Nat) : ∀ p : Part, p.wt ≤ n → (allP p).wt ≤ p.wt := by
 induction n with
 | zero => intro p hp; obtain ⟨k, q, t, o, w⟩ := p; simp [Part.wt] at hp
 | succ n ih =>
  intro p hp
  obtain ⟨k, q, t, o, w⟩ := p
  have key : ∀ (ps acc : List Part), Part.wts ps ≤ n → Part.wts (allL acc ps) ≤ Part.wts acc + Part.wts ps := by
   intro ps
   induction ps with
   | nil => intro acc _; simp [allL, Part.wts]
   | cons p ps ihp =>
    intro acc h
    simp only [Part.wts] at h
    have h1 := ih p (by omega)
    have h2 := ihp (add acc (allP p)) (by omega)
    have h3 := add_wt acc (allP p)
    simp only [allL, Part.wts]
    omega
  simp only [Part.wt] at hp
  have := key w [] (by omega)
  simp only [allP, Part.wt, Part.wts] at this ⊢
  omega
theorem sl_get {w : World} {S : Nat → Prop} {e sz : Nat} {xs : List D} {v : Value} (h : Rep w S (.sl e sz xs) [v]) (hsz : 0 < sz) (i : Nat) (d : D) (hd : xs[i]? = some d) :
  ∃ b o c cs, v = .slice (some ⟨b, o, none⟩) xs.length c ∧ xs.length ≤ c ∧ c ≤ maxLen ∧ S b ∧ Rep w S d cs ∧ cs.length = sz ∧ ∀ j u, cs[j]? = some u → w.cell? ⟨b, o + (i * sz + j), none⟩ = some u := by
 obtain ⟨A, c, inner, h1, h2, h3, h4, h5⟩ := h
 obtain ⟨cs, hr, hl, hj⟩ := RepE.get h5 i d hd
 cases h1
 match cs, hl with
 | [], hl => exact absurd hl (by simp; omega)
 | u :: us, hl =>
  obtain ⟨b, o, rfl, hb, _⟩ := h4 _ _ (hj 0 u rfl)
  refine ⟨b, o, c, u :: us, rfl, h2, h3, hb, hr, hl, fun j x hx => ?_⟩
  obtain ⟨b', o', e, _, hc⟩ := h4 _ _ (hj j x hx)
  cases e
  exact hc
set_option maxRecDepth 100000 in
set_option maxHeartbeats 4000000 in
theorem all_not (w : World) (S : Nat → Prop) (p : Part) (cs : List Value) (hp : Rep w S p.d cs) :
  Calls Tryz.prog 163 #[.agg cs.toArray, .bool false] w fun en w' => ∃ cs', en = .returned (.agg cs'.toArray) ∧ Rep w' (fun k => S k ∨ w.heap.size ≤ k) p.d cs' ∧ Chg (fun _ => False) w w' := by
 obtain ⟨k, q, t, o, wd⟩ := p
 obtain ⟨A, c, rfl, hwv, _, _⟩ := part_rep2 hp
 go_enter Tryz.func163, Tryz.ntmps163
 go_wp2
 refine bodyPost_ret (v := .agg #[.int .i64 k, .bool q, .string (bstr t), .string (bstr o), .slice A wd.length c]) (by simp [results, Tryz.results163, go_sem]) rfl ⟨_, rfl, ?_, ?_⟩
 ·exact (hp.stay (((Chg.refl (fun _ => False) _).alloc _).alloc _) (fun _ _ e => e)).mono (fun _ h _ => .inl h)
 ·exact ((Chg.refl _ _).alloc _).alloc _
def AllSaid (n : Nat) : Prop := ∀ (w : World) (S : Nat → Prop) (p : Part) (cs : List Value), (∀ k, S k → k < w.heap.size) → p.wt ≤ n → p.wt ≤ 400000 → Rep w S p.d cs →
  Calls Tryz.prog 163 #[.agg cs.toArray, .bool true] w fun en w' => ∃ cs', en = .returned (.agg cs'.toArray) ∧ Rep w' (fun k => S k ∨ w.heap.size ≤ k) (allP p).d cs' ∧ Chg (fun _ => False) w w'
theorem wt_get {wd : List Part} {k : Nat} {p : Part} (h : wd[k]? = some p) : p.wt + Part.wts (wd.drop (k + 1)) = Part.wts (wd.drop k) := by
 have hk := (List.getElem?_eq_some_iff.1 h).1
 rw [List.drop_eq_getElem_cons hk]
 have : wd[k] = p := (List.getElem?_eq_some_iff.1 h).2
 rw [this]
 rfl
theorem wts_drop (wd : List Part) (k : Nat) : Part.wts (wd.drop k) ≤ Part.wts wd := by
 have := Part.wts_append (wd.take k) (wd.drop k)
 rw [List.take_append_drop] at this
 omega
set_option maxRecDepth 100000 in
set_option maxHeartbeats 4000000 in
theorem all_yes (n : Nat) (IH : AllSaid n) : AllSaid (n + 1) := by
 intro w S p cs hS hn hb hp
 obtain ⟨kd, q, t, o, wd⟩ := p
 obtain ⟨A, c, rfl, hwv, hc, hmax⟩ := part_rep2 hp
 simp only [Part.wt] at hn hb
 have hlen := Part.length_le wd
 have hmax' : c ≤ 9223372036854775807 := by simpa [maxLen] using hmax
 go_enter Tryz.func163, Tryz.ntmps163
 go_wp2
 go_loopg [5, 15] wd.length (fun rk v i wr => ∃ (k : Nat) (acc : List Part), k + rk = wd.length ∧ i = .int .i64 k ∧ Own wr (fun j => S j ∨ w.heap.size + 2 ≤ j) 103 5 v (Part.ds acc) ∧ (∀ j, v.ownBlock = some j → w.heap.size + 2 ≤ j) ∧ Chg (fun _ => False) w wr ∧ w.heap.size + 2 ≤ wr.heap.size ∧
  wr.heap[w.heap.size]? = some (.cells #[.int .i64 kd, .bool true, .string (bstr t), .string (bstr o), .slice A wd.length c] 103 (0, 0)) ∧
  wr.heap[w.heap.size + 1]? = some (.cells #[.int .i64 0, .bool false, .string ⟨#[]⟩, .string ⟨#[]⟩, .slice none 0 0] 103 (0, 0)) ∧ Hid (allL acc (wd.drop k) = allL [] wd) ∧ Part.wts acc + Part.wts (wd.drop k) ≤ Part.wts wd)
 case atStart =>
  refine ⟨0, [], by omega, by simp, Own.nil _ _ _ _, by simp [Value.ownBlock], ((Chg.refl _ _).alloc _).alloc _, by simp, ?_, ?_, Lib.hid (by simp), by simp [Part.wts]⟩
  ·exact row_alloc (row_new w _) _
  ·simpa using row_new (w.alloc (.cells #[.int .i64 kd, .bool true, .string (bstr t), .string (bstr o), .slice A wd.length c] 103)) (.cells #[.int .i64 0, .bool false, .string ⟨#[]⟩, .string ⟨#[]⟩, .slice none 0 0] 103)
 case round =>
  obtain ⟨k, acc, hk, rfl, hO, hob, hC, hsz, hB0, hB1, HK, hwt⟩ := hrel
  by_cases hlt : k < wd.length
  ·obtain ⟨A2, c2, hv, _, hm2⟩ := hO.form
   obtain ⟨p, hpk⟩ : ∃ p, wd[k]? = some p := ⟨wd[k], List.getElem?_eq_getElem hlt⟩
   obtain ⟨b, off, c', cs1, hv1, _, _, hb1, hr1, hl1, hcs⟩ := sl_get hwv (by omega) k p.d (by rw [Part.ds_map, List.getElem?_map, hpk]; rfl)
   obtain ⟨kd1, q1, t1, o1, wd1⟩ := p
   have hwp := wt_get hpk
   have hwd := wts_drop wd k
   obtain ⟨A1, c1, rfl, hwv1, hc1, hmax1⟩ := part_rep2 hr1
   simp only [Part.ds_length, Value.slice.injEq] at hv1
   obtain ⟨rfl, _, rfl⟩ := hv1
   have g0 := hC.cell (hcs 0 _ rfl) (fun e => e)
   have g1 := hC.cell (hcs 1 _ rfl) (fun e => e)
   have g2 := hC.cell (hcs 2 _ rfl) (fun e => e)
   have g3 := hC.cell (hcs 3 _ rfl) (fun e => e)
   have g4 := hC.cell (hcs 4 _ rfl) (fun e => e)
   clear hcs
   simp only [Nat.add_zero, ← Nat.add_assoc] at g0 g1 g2 g3 g4
   have HB0 := Lib.hid hB0; clear hB0
   have HB1 := Lib.hid hB1; clear hB1
   have Hv := Lib.hid hv; clear hv
   have Hpk := Lib.hid hpk; clear hpk
   have Hwp := Lib.hid hwp; clear hwp
   have Hk := Lib.hid hk; clear hk
   go_wp2_with fail
   refine (IH _ S (.mk kd1 q1 t1 o1 wd1) [.int .i64 kd1, .bool q1, .string (bstr t1), .string (bstr o1), .slice A1 wd1.length c1] (fun j h => by have := hS j h; simp; omega) (by have := Hwp.out; omega) (by have := Hwp.out; omega) (hr1.stay (hC.alloc _) (fun _ _ e => e))).mono ?_
   rintro e w1 ⟨cs', rfl, hr', hC'⟩
   go_wp2_with fail
   have hz1 : wr.heap.size + 1 ≤ w1.heap.size := by simpa using hC'.size
   have hO1 : Own w1 (fun j => S j ∨ w.heap.size + 2 ≤ j) 103 5 u5 (Part.ds acc) := (hO.stay ((Chg.refl (fun _ => False) _).alloc _) (fun _ _ e => e)).stay hC' (fun _ _ e => e)
   refine (add_calls w1 _ _ u5 acc (allP (.mk kd1 q1 t1 o1 wd1)) cs' hO1 hr' (fun j h hl => ?_) (by have := Hwp.out; have := allP_wt _ (.mk kd1 q1 t1 o1 wd1) (Nat.le_refl _); omega)).mono ?_
   ·rcases h with h | h
    ·exact ⟨.inl h, fun e => by have h1 := hob j e.symm; have h2 := hS j h; omega⟩
    ·simp at h
     exact ⟨.inr (by omega), fun e => by have h1 := Own.lt hO e.symm; omega⟩
   ·rintro e w2 ⟨v2, rfl, hO2, hC2, hat⟩
    have hz2 := hC2.size
    have hC02 : Chg (fun _ => False) w w2 := ((hC.alloc _).trans hC' (fun _ h _ => h)).trans hC2 (fun j h hl => by have := hob j h.symm; omega)
    have k0 := row_chg (row_chg (row_alloc HB0.out (.cells #[.int .i64 kd1, .bool q1, .string (bstr t1), .string (bstr o1), .slice A1 wd1.length c1] 103)) hC' (fun e => e)) hC2 (fun e => by have := hob _ e.symm; omega)
    have k1 := row_chg (row_chg (row_alloc HB1.out (.cells #[.int .i64 kd1, .bool q1, .string (bstr t1), .string (bstr o1), .slice A1 wd1.length c1] 103)) hC' (fun e => e)) hC2 (fun e => by have := hob _ e.symm; omega)
    have hadd := add_wt acc (allP (.mk kd1 q1 t1 o1 wd1))
    have hall := allP_wt _ (.mk kd1 q1 t1 o1 wd1) (Nat.le_refl _)
    have HKK : Hid (allL (add acc (allP (.mk kd1 q1 t1 o1 wd1))) (wd.drop (k + 1)) = allL [] wd) := Lib.hid (by
     rw [← HK.out, List.drop_eq_getElem_cons hlt, show wd[k] = .mk kd1 q1 t1 o1 wd1 from (List.getElem?_eq_some_iff.1 Hpk.out).2]
     rfl)
    have K0 := Lib.hid k0; clear k0
    have K1 := Lib.hid k1; clear k1
    go_wp2
    go_roundg (gk - 1)
    case measure => have := Hk.out; omega
    case rel =>
     refine ⟨k + 1, _, by have := Hk.out; omega, by go_num, hO2.mono (fun j h _ => h.elim id (fun h => .inr (by omega))), fun j hj => ?_, hC02, by omega, K0.out, K1.out, HKK, by have := Hwp.out; omega⟩
     rcases hat with h | ⟨b', h, hle⟩
     ·exact hob j (h ▸ hj)
     ·rw [hj] at h; cases h; omega
  ·obtain ⟨A2, c2, rfl, _, hm2⟩ := hO.form
   obtain rfl : k = wd.length := by omega
   have hcl := row_cells hB0
   have hfr := row_free hB0
   have hcl1 := row_cells hB1
   have hfr1 := row_free hB1
   have HB0 := Lib.hid hB0; clear hB0
   have HB1 := Lib.hid hB1; clear hB1
   go_wp2
   refine bodyPost_ret (v := .agg #[.int .i64 kd, .bool true, .string (bstr t), .string (bstr o), .slice A2 (Part.ds acc).length c2]) (by simp [results, Tryz.results163, go_sem, hcl1]) rfl ⟨[.int .i64 kd, .bool true, .string (bstr t), .string (bstr o), .slice A2 (Part.ds acc).length c2], rfl, ?_, ?_⟩
   ·have e : acc = allL [] wd := by have := HK.out; rwa [List.drop_length] at this
    have HR : Rep wr (fun j => S j ∨ w.heap.size + 2 ≤ j) (Part.d (allP (.mk kd q t o wd))) [.int .i64 kd, .bool true, .string (bstr t), .string (bstr o), .slice A2 (Part.ds acc).length c2] := by
     simp only [allP]
     rw [← e]
     exact part_rep.2 ⟨_, rfl, hO.rep⟩
    refine (HR.stay ((((((((Chg.refl (fun j => j = w.heap.size ∨ j = w.heap.size + 1) wr).setCell (fun _ => .inl rfl) _).setCell (fun _ => .inr rfl) _).setCell (fun _ => .inr rfl) _).setCell (fun _ => .inr rfl) _).setCell (fun _ => .inr rfl) _).setCell (fun _ => .inr rfl) _)) ?_).mono ?_
    ·rintro j (h | h) (rfl | rfl)
     ·exact absurd (hS _ h) (by omega)
     ·exact absurd (hS _ h) (by omega)
     ·omega
     ·omega
    ·exact fun j h _ => h.imp id (fun h => by omega)
   ·have nl : ¬ w.heap.size < w.heap.size := by omega
    exact (((((hC.setCell (fun h => absurd h (by simp)) _).setCell (fun h => absurd h (by simp)) _).setCell (fun h => absurd h (by simp)) _).setCell (fun h => absurd h (by simp)) _).setCell (fun h => absurd h (by simp)) _).setCell (fun h => absurd h (by simp)) _
theorem all_said : ∀ n, AllSaid n
 | 0 => fun w S p cs _ hn => by obtain ⟨k, q, t, o, wd⟩ := p; simp [Part.wt] at hn
 | n + 1 => all_yes n (all_said n)
theorem all_calls (w : World) (S : Nat → Prop) (p : Part) (q : Bool) (cs : List Value) (hb : p.wt ≤ 400000) (hp : Rep w S p.d cs) :
  Calls Tryz.prog 163 #[.agg cs.toArray, .bool q] w fun en w' => ∃ cs', en = .returned (.agg cs'.toArray) ∧ Rep w' (fun k => S k ∨ w.heap.size ≤ k) (allB p q).d cs' ∧ Chg (fun _ => False) w w' := by
 cases q
 ·exact all_not w S p cs hp
 ·refine (all_said _ w (fun k => S k ∧ k < w.heap.size) p cs (fun k h => h.2) (Nat.le_refl _) hb hp.bound).mono ?_
  rintro e w' ⟨cs', rfl, h, hc⟩
  exact ⟨cs', rfl, h.mono (fun k h _ => h.imp (fun h => h.1) id), hc⟩
end Go.Proofs.YtdfnkmiabmjolaaGreatDoor
namespace Go.Proofs.YtdfnkmiabmjolaaGreatDoor
theorem lit_wt (s : Bytes) (q : Bool) : (lit s q).wt = 1 + s.length := by simp [lit, Part.wt, Part.wts]
theorem idx_lt (c : UInt8) : ∀ (l : Bytes) (k : Nat), idx c l = some k → k < l.length
 | [], k, h => by simp [idx] at h
 | d :: l, k, h => by
  rw [idx] at h
  split at h
  ·simp at h; simp; omega
  ·simp only [Option.map_eq_some_iff] at h
   obtain ⟨j, hj, rfl⟩ := h
   have := idx_lt c l j hj
   simp; omega
theorem insideF_lt : ∀ (n deep : Nat) (l : Bytes) (k : Nat), insideF n deep l = some k → k < l.length
 | 0, _, _, _, h => by simp [insideF] at h
 | n + 1, _, [], _, h => by simp [insideF] at h
 | n + 1, deep, c :: r, k, h => by
  rw [insideF] at h
  split at h
  ·simp only [Option.map_eq_some_iff] at h
   obtain ⟨j, hj, rfl⟩ := h
   have := insideF_lt n _ _ j hj
   simp at this ⊢; omega
  ·split at h
   ·split at h
    ·simp at h
    ·rename_i j' hc
     simp only [Option.map_eq_some_iff] at h
     obtain ⟨j, hj, rfl⟩ := h
     have := insideF_lt n _ _ j hj
     have := closed_lt _ _ _ hc
     simp at *; omega
   ·split at h
    ·simp only [Option.map_eq_some_iff] at h
     obtain ⟨j, hj, rfl⟩ := h
     have := insideF_lt n _ _ j hj
     simp at this ⊢; omega
    ·split at h
     ·split at h
      ·simp at h; simp; omega
      ·simp only [Option.map_eq_some_iff] at h
       obtain ⟨j, hj, rfl⟩ := h
       have := insideF_lt n _ _ j hj
       simp at this ⊢; omega
     ·simp only [Option.map_eq_some_iff] at h
      obtain ⟨j, hj, rfl⟩ := h
      have := insideF_lt n _ _ j hj
      simp at this ⊢; omega
theorem arithF_len : ∀ (F dp : Nat) (acc r t r' : Bytes), arithF F dp acc r = .ok t r' → t.length + r'.length + 2 ≤ acc.length + r.length
 | F, dp, acc, [], t, r', h => by simp [arithF] at h
 | F, dp, acc, c :: r, t, r', h => by
  rw [arith_cons] at h
  split at h
  ·simp at h
  ·split at h
   ·have := arithF_len F _ _ r t r' h
    simp at this ⊢; omega
   ·split at h
    ·have := arithF_len F _ _ r t r' h
     simp at this ⊢; omega
    ·split at h
     ·split at h
      ·simp at h
       obtain ⟨rfl, rfl⟩ := h
       simp; omega
      ·simp at h
     ·have := arithF_len F _ _ r t r' h
      simp at this ⊢; omega
theorem named_le : ∀ s : Bytes, named s ≤ s.length
 | [] => Nat.le_refl _
 | c :: r => by
  rw [named]
  split
  ·have := takeWhile_le (p := alnum) r
   simp; omega
  ·omega
theorem parameter_le : ∀ s : Bytes, parameter s ≤ s.length
 | [] => Nat.le_refl _
 | c :: r => by
  have h1 := named_le (c :: r)
  have h2 := takeWhile_le (p := digit) (c :: r)
  show (if named (c :: r) > 0 then named (c :: r) else if special c then 1 else ((c :: r).takeWhile digit).length) ≤ _
  split
  ·exact h1
  ·split
   ·simp
   ·exact h2
theorem opL_prefix : ∀ (os : List Bytes) (s : Bytes), (opL os s).length ≤ s.length
 | [], s => by simp [opL]
 | o :: os, s => by
  rw [opL]
  split
  ·rename_i h
   exact (List.isPrefixOf_iff_prefix.1 h).length_le
  ·exact opL_prefix os s
theorem escape_len (l l' : List Part) (r r' : Bytes) (h : escape l r = .ok l' r') : Part.wts l' + 2 * r'.length ≤ Part.wts l + 2 * r.length ∧ r'.length + 2 ≤ r.length := by
 unfold escape at h
 split at h
 ·simp only [Rs.ok.injEq] at h
  obtain ⟨rfl, rfl⟩ := h
  split
  ·simp; omega
  ·rename_i d _ _
   have := add_wt l (lit [d] true)
   rw [lit_wt] at this
   simp at this ⊢; omega
 ·simp at h
structure ScanLen (n : Nat) : Prop where
 word : ∀ deep br q l r l' r', wordF n deep br q l r = .ok l' r' → Part.wts l' + 2 * r'.length ≤ Part.wts l + 2 * r.length ∧ r'.length ≤ r.length
 double : ∀ deep F l r l' r', doubleF n deep F l r = .ok l' r' → Part.wts l' + 2 * r'.length ≤ Part.wts l + 2 * r.length ∧ r'.length + 1 ≤ r.length
 dollar : ∀ deep q r p r', dollarF n deep q r = .ok p r' → p.wt + 2 * r'.length ≤ 2 * r.length + 2 ∧ r'.length ≤ r.length
 param : ∀ deep q r p r', paramF n deep q r = .ok p r' → p.wt + 2 * r'.length ≤ 2 * r.length ∧ r'.length + 1 ≤ r.length
theorem allB_wt (p : Part) (q : Bool) : (allB p q).wt ≤ p.wt := by
 cases q
 ·exact Nat.le_refl _
 ·exact allP_wt _ p (Nat.le_refl _)
theorem scan_len : ∀ n, ScanLen n
 | 0 => ⟨by intros; rename_i h; simp [wordF] at h, by intros; rename_i h; simp [doubleF] at h, by intros; rename_i h; simp [dollarF] at h, by intros; rename_i h; simp [paramF] at h⟩
 | n + 1 => by
  obtain ⟨ihw, ihd, ihs, ihp⟩ := scan_len n
  refine ⟨?_, ?_, ?_, ?_⟩
  ·intro deep br q l r l' r' h
   cases r with
   | nil => simp [wordF] at h; obtain ⟨rfl, rfl⟩ := h; simp
   | cons c r =>
    rw [wordF] at h
    split at h
    ·simp at h; obtain ⟨rfl, rfl⟩ := h; simp
    ·split at h
     ·split at h
      ·rename_i l1 r1 he
       have h1 := escape_len _ _ _ _ he
       have h2 := ihw _ _ _ _ _ _ _ h
       simp at h1 ⊢; omega
      ·simp at h
     ·split at h
      ·split at h
       ·simp at h
       ·rename_i k hk
        have h1 := idx_lt _ _ _ hk
        have h2 := ihw _ _ _ _ _ _ _ h
        have h3 := add_wt l (lit (r.take k) true)
        rw [lit_wt] at h3
        simp at h2 h3 ⊢; omega
      ·split at h
       ·split at h
        ·rename_i l1 r1 he
         have h1 := ihd _ _ _ _ _ _ he
         have h2 := ihw _ _ _ _ _ _ _ h
         simp; omega
        ·simp at h
       ·split at h
        ·simp at h
        ·split at h
         ·split at h
          ·rename_i p1 r1 he
           have h1 := ihs _ _ _ _ _ he
           have h2 := ihw _ _ _ _ _ _ _ h
           have h3 := add_wt l p1
           simp; omega
          ·simp at h
         ·have h2 := ihw _ _ _ _ _ _ _ h
          have h3 := add_wt l (lit [c] q)
          rw [lit_wt] at h3
          simp at h3 ⊢; omega
  ·intro deep F l r l' r' h
   cases r with
   | nil => simp [doubleF] at h
   | cons c r =>
    rw [doubleF] at h
    split at h
    ·simp only [Rs.ok.injEq] at h
     obtain ⟨rfl, rfl⟩ := h
     have h3 := add_wt l (lit [] true)
     rw [lit_wt] at h3
     split <;> simp at h3 ⊢ <;> omega
    ·split at h
     ·simp at h
     ·split at h
      ·split at h
       ·rename_i p1 r1 he
        have h1 := ihs _ _ _ _ _ he
        have h2 := ihd _ _ _ _ _ _ h
        have h3 := add_wt l p1
        simp; omega
       ·simp at h
      ·split at h
       ·split at h
        ·rename_i l1 r1 he
         have h1 := escape_len _ _ _ _ he
         have h2 := ihd _ _ _ _ _ _ h
         simp at h1 ⊢; omega
        ·simp at h
       ·have h2 := ihd _ _ _ _ _ _ h
        have h3 := add_wt l (lit [c] true)
        rw [lit_wt] at h3
        simp at h3 ⊢; omega
  ·intro deep q r p r' h
   rw [dollarF, dollarG.eq_def] at h
   split at h
   ·simp at h
   ·split at h
    ·rename_i hn
     have := named_le r
     simp only [Rs.ok.injEq] at h
     obtain ⟨rfl, rfl⟩ := h
     simp [Part.wt, Part.wts]; omega
    ·split at h
     ·simp only [Rs.ok.injEq] at h
      obtain ⟨rfl, rfl⟩ := h
      simp [lit_wt]
     ·split at h
      ·simp only [Rs.ok.injEq] at h
       obtain ⟨rfl, rfl⟩ := h
       simp [Part.wt, Part.wts]; omega
      ·split at h
       ·have := ihp _ _ _ _ _ h
        simp; omega
       ·split at h
        ·split at h
         ·split at h
          ·rename_i t r1 he
           have := arithF_len _ _ _ _ _ _ he
           simp only [Rs.ok.injEq] at h
           obtain ⟨rfl, rfl⟩ := h
           simp [Part.wt, Part.wts] at this ⊢; omega
          ·simp at h
         ·split at h
          ·simp at h
          ·rename_i k hk
           have := insideF_lt _ _ _ _ hk
           simp only [Rs.ok.injEq] at h
           obtain ⟨rfl, rfl⟩ := h
           simp [Part.wt, Part.wts]; omega
        ·simp only [Rs.ok.injEq] at h
         obtain ⟨rfl, rfl⟩ := h
         simp [lit_wt]; omega
  ·intro deep q r p r' h
   rw [paramF] at h
   split at h
   ·simp at h
   ·have key : ∀ (len : Bool) (r1 : Bytes), paramG (wordF n (deep + 1) true q []) (r.length + 2) len q r1 = .ok p r' → p.wt + 2 * r'.length ≤ 2 * r1.length + (if len then 2 else 0) ∧ r'.length + 1 ≤ r1.length := by
     intro len r1 h
     rw [paramG] at h
     split at h
     ·simp at h
     ·rename_i hk
      simp at hk
      have hp := parameter_le r1
      have ho := opL_prefix ops (r1.drop (parameter r1))
      rw [← opM] at ho
      have hfin : ∀ (t o : Bytes) (l : List Part) (r3 : Bytes), finish (r.length + 2) q t o (.ok l r3) = .ok p r' → p.wt ≤ 1 + t.length + o.length + Part.wts l ∧ r'.length + 1 = r3.length := by
       intro t o l r3 h
       rw [finish.eq_def] at h
       dsimp only at h
       split at h
       ·simp at h
       ·split at h
        ·simp only [Rs.ok.injEq] at h
         obtain ⟨rfl, rfl⟩ := h
         have := allB_wt (.mk 2 q t o l) q
         simp only [Part.wt] at this
         simp; omega
        ·simp at h
      cases len with
      | true =>
       simp only [if_true, Bool.true_or] at h
       have := hfin _ _ _ _ h
       simp [Part.wts] at this ⊢; omega
      | false =>
       simp only [Bool.false_or, Bool.false_eq_true, if_false] at h
       by_cases hop : (opM (r1.drop (parameter r1)) == []) = true
       ·rw [if_pos hop] at h
        have := hfin _ _ _ _ h
        have hop' : opM (r1.drop (parameter r1)) = [] := by simpa using hop
        rw [hop'] at this
        simp [Part.wts] at this ⊢; omega
       ·rw [if_neg hop] at h
        generalize hw : wordF n (deep + 1) true q [] ((r1.drop (parameter r1)).drop (opM (r1.drop (parameter r1))).length) = W at h
        cases W with
        | err a e => simp [finish] at h
        | ok l r3 =>
         have h1 := ihw _ _ _ _ _ _ _ hw
         have := hfin _ _ _ _ h
         simp [Part.wts] at this h1 ho ⊢; omega
    split at h
    ·rename_i hl
     have := key _ _ h
     rw [hl] at this
     cases r with
     | nil => simp [lenB] at hl
     | cons c r => simp at this ⊢; omega
    ·rename_i hl
     have := key _ _ h
     simp [hl] at this
     exact this
end Go.Proofs.YtdfnkmiabmjolaaGreatDoor
namespace Go.Proofs.YtdfnkmiabmjolaaGreatDoor
open Go.RowKit
def PartVal (w : World) (p : Part) (v : Value) (w' : World) : Prop := ∃ cs : List Value, v = .agg cs.toArray ∧ Rep w' (fun k => w.heap.size ≤ k) p.d cs
def RowVal (w : World) (S : Nat → Prop) (l : List Part) (v : Value) (w' : World) : Prop := Own w' (fun k => S k ∨ w.heap.size ≤ k) 103 5 v (Part.ds l)
def WordSaid (n : Nat) : Prop := ∀ (w : World) (g : Nat) (s : ByteArray) (a d : Nat) (br q : Bool), ScanAt w g s a d → a ≤ s.size → s.size ≤ 8192 → d ≤ 16 → 4 * (s.size - a) + 3 ≤ n →
 Calls Tryz.prog 97 #[.pointer (some ⟨g, 0, none⟩), .bool br, .bool q] w (ScanPost w g s d (wordF n d br q [] (s.data.toList.drop a)) (fun _ => False) (RowVal w (fun _ => False)))
def DoubleSaid (n : Nat) : Prop := ∀ (w : World) (g : Nat) (s : ByteArray) (a d : Nat) (S : Nat → Prop) (v : Value) (l : List Part), ScanAt w g s a d → a < s.size → s.size ≤ 8192 → d ≤ 16 → 4 * (s.size - a) + 2 ≤ n →
 Own w S 103 5 v (Part.ds l) → ¬ S g → Part.wts l + 2 * (s.size - a) ≤ 100000 →
 Calls Tryz.prog 113 #[.pointer (some ⟨g, 0, none⟩), v] w (ScanPost w g s d (doubleF n d (s.size - a) l (s.data.toList.drop (a + 1))) (fun j => some j = v.ownBlock) (RowVal w S))
def DollarSaid (n : Nat) : Prop := ∀ (w : World) (g : Nat) (s : ByteArray) (a d : Nat) (q : Bool), ScanAt w g s a d → a < s.size → s.size ≤ 8192 → d ≤ 16 → 4 * (s.size - a) + 1 ≤ n →
 Calls Tryz.prog 114 #[.pointer (some ⟨g, 0, none⟩), .bool q] w (ScanPost w g s d (dollarF n d q (s.data.toList.drop (a + 1))) (fun _ => False) (PartVal w))
def ParamSaid (n : Nat) : Prop := ∀ (w : World) (g : Nat) (s : ByteArray) (a d : Nat) (q : Bool), ScanAt w g s a d → a + 2 ≤ s.size → s.size ≤ 8192 → d ≤ 16 → 4 * (s.size - a) ≤ n →
 Calls Tryz.prog 144 #[.pointer (some ⟨g, 0, none⟩), .bool q] w (ScanPost w g s d (paramF n d q (s.data.toList.drop (a + 2))) (fun _ => False) (PartVal w))
theorem extract_size (s : ByteArray) (a : Nat) (h : a ≤ s.size) : (s.extract a s.size).size = s.size - a := by simp [ByteArray.size_extract]
theorem part_nil (w : World) (S : Nat → Prop) (k : Int) (q : Bool) (x : ByteArray) (t : Bytes) (hx : x = bstr t) : Rep w S (Part.d (.mk k q t [] [])) [.int .i64 k, .bool q, .string x, .string ⟨#[]⟩, .slice none 0 0] :=
 part_rep.2 ⟨_, by rw [hx]; rfl, none, 0, [], rfl, Nat.le_refl _, by simp [maxLen], by simp [Rd], rfl⟩
theorem byte_comm (x c : UInt8) : (x == c) = (c == x) := by
 by_cases h : x = c
 ·rw [h]
 ·rw [beq_eq_false_iff_ne.2 h, beq_eq_false_iff_ne.2 (Ne.symm h)]
theorem prefix_one (x : UInt8) (c : UInt8) (l : Bytes) : Lib.hasPrefix (c :: l) [x] = (c == x) := by
 show ((x == c) && true) = (c == x)
 rw [Bool.and_true, byte_comm]
theorem prefix_two (x y : UInt8) (c d : UInt8) (l : Bytes) : Lib.hasPrefix (c :: d :: l) [x, y] = (c == x && d == y) := by
 show ((x == c) && ((y == d) && true)) = (c == x && d == y)
 rw [Bool.and_true, byte_comm, byte_comm y]
theorem prefix_two_one (x y : UInt8) (c : UInt8) : Lib.hasPrefix [c] [x, y] = false := by simp [Lib.hasPrefix, List.isPrefixOf]
theorem data_cons (t : ByteArray) (h : 0 < t.size) : t.data.toList = t[0] :: t.data.toList.drop 1 := byte_drop t 0 h
theorem extract_head (s : ByteArray) (b : Nat) (h : b < s.size) (t : ByteArray) (ht : t.data.toList = s.data.toList.drop b) (h0 : 0 < t.size) : t[0] = s[b] := by
 have h1 := data_cons t h0
 rw [ht, byte_drop s b h] at h1
 exact (List.cons.inj h1).1.symm
section
variable (w : World) (g : Nat) (s : ByteArray) (a d : Nat) (q : Bool) (h : ScanAt w g s a d) (ha : a < s.size) (hs : s.size ≤ 8192) (n : Nat)
include h ha hs
set_option maxRecDepth 100000 in
set_option maxHeartbeats 4000000 in
theorem dollar_long (hn : named (s.data.toList.drop (a + 1)) > 64) : Calls Tryz.prog 114 #[.pointer (some ⟨g, 0, none⟩), .bool q] w (ScanPost w g s d (dollarF (n + 1) d q (s.data.toList.drop (a + 1))) (fun _ => False) (PartVal w)) := by
 have hE : dollarF (n + 1) d q (s.data.toList.drop (a + 1)) = .err (s.size - (a + 1)) 61 := by rw [dollarF, dollarG.eq_def, if_pos hn, drop_len]
 have HE := Lib.hid hE; clear hE
 have HN := Lib.hid hn; clear hn
 obtain ⟨h0, h1, h2, f1, _, hgl⟩ := h.cells
 have HT0 := Lib.hid (Lib.extract_to_end s (a + 1))
 have e1 : (0 : Int) ≤ (a : Int) + 1 := by omega
 have e2 : (a : Int) + 1 ≤ (s.size : Int) := by omega
 have hsz : (s.extract (a + 1) s.size).size ≤ 8192 := by simp [ByteArray.size_extract]; omega
 have HSZ := Lib.hid (extract_size s (a + 1) (by omega))
 generalize dollarF (n + 1) d q (s.data.toList.drop (a + 1)) = R at *
 go_enter Tryz.func114, Tryz.ntmps114
 go_wp2_with fail
 generalize s.extract (a + 1) s.size = t at *
 have hn : named t.data.toList > 64 := by rw [HT0.out]; exact HN.out
 go_wp2_with (first | (go_at_call 142; refine (named_calls _ _ (by omega)).mono ?_; rintro e w' ⟨rfl, rfl⟩) | (go_at_call 110; refine (fail_calls _ _ _ _).mono ?_; rintro e w1 ⟨rfl, rfl⟩))
 refine ⟨rfl, ?_⟩
 rw [HE.out]
 exact ⟨a + 1, by omega, rfl, by simp [faultV], (Chg.refl _ _).alloc _⟩
set_option maxRecDepth 100000 in
set_option maxHeartbeats 4000000 in
theorem dollar_name (hn : named (s.data.toList.drop (a + 1)) ≤ 64) (hn0 : 0 < named (s.data.toList.drop (a + 1))) : Calls Tryz.prog 114 #[.pointer (some ⟨g, 0, none⟩), .bool q] w (ScanPost w g s d (dollarF (n + 1) d q (s.data.toList.drop (a + 1))) (fun _ => False) (PartVal w)) := by
 have hE : dollarF (n + 1) d q (s.data.toList.drop (a + 1)) = .ok (.mk 2 q ((s.data.toList.drop (a + 1)).take (named (s.data.toList.drop (a + 1)))) [] []) (s.data.toList.drop (a + 1 + named (s.data.toList.drop (a + 1)))) := by
  rw [dollarF, dollarG.eq_def, if_neg (by omega), if_pos hn0, List.drop_drop]
 have HE := Lib.hid hE; clear hE
 have HN := Lib.hid (And.intro hn hn0); clear hn hn0
 have HL := Lib.hid (named_le (s.data.toList.drop (a + 1)))
 obtain ⟨h0, h1, h2, f1, _, hgl⟩ := h.cells
 have HT0 := Lib.hid (Lib.extract_to_end s (a + 1))
 have e1 : (0 : Int) ≤ (a : Int) + 1 := by omega
 have e2 : (a : Int) + 1 ≤ (s.size : Int) := by omega
 have hsz : (s.extract (a + 1) s.size).size ≤ 8192 := by simp [ByteArray.size_extract]; omega
 have HSZ := Lib.hid (extract_size s (a + 1) (by omega))
 generalize dollarF (n + 1) d q (s.data.toList.drop (a + 1)) = R at *
 go_enter Tryz.func114, Tryz.ntmps114
 go_wp2_with fail
 generalize s.extract (a + 1) s.size = t at *
 generalize hk : named t.data.toList = k at *
 have HK := Lib.hid hk; clear hk
 have hk1 : k ≤ 64 := by rw [← HK.out, HT0.out]; exact HN.out.1
 have hk0 : 0 < k := by rw [← HK.out, HT0.out]; exact HN.out.2
 have hk2 : k ≤ t.size := by rw [← HK.out, HT0.out, ← len_data t, HT0.out]; exact HL.out
 have hk3 := HSZ.out
 have HX := Lib.hid (extract_bstr t 0 k)
 have hk4 : a + 1 + k ≤ s.size := by omega
 clear hk3
 go_wp2_with (go_at_call 142; refine (named_calls _ _ (by omega)).mono ?_; rintro e w' ⟨rfl, rfl⟩; rw [HK.out])
 refine bodyPost_ret (v := .agg #[.int .i64 2, .bool q, .string (t.extract 0 k), .string ⟨#[]⟩, .slice none 0 0]) (by simp [results, Tryz.results114, go_sem]) rfl ?_
 rw [HE.out]
 refine ⟨_, a + 1 + k, rfl, hk4, by rw [← HT0.out, HK.out], ⟨_, rfl, part_nil _ _ _ _ _ _ ?_⟩, ?_, ((Chg.refl _ _).setCell (fun _ => .inl rfl) _).alloc _⟩
 ·rw [HX.out, ← HT0.out, HK.out]; simp
 ·have := row_alloc (h.at' ((a : Int) + ((k : Int) + 1))) (.cells #[.int .i64 2, .bool q, .string (t.extract 0 k), .string ⟨#[]⟩, .slice none 0 0] 103)
  rw [show ((a : Int) + ((k : Int) + 1)) = ((a + 1 + k : Nat) : Int) by omega] at this ⊢
  exact this
set_option maxRecDepth 100000 in
set_option maxHeartbeats 4000000 in
theorem dollar_end (ha' : ¬ a + 1 < s.size) : Calls Tryz.prog 114 #[.pointer (some ⟨g, 0, none⟩), .bool q] w (ScanPost w g s d (dollarF (n + 1) d q (s.data.toList.drop (a + 1))) (fun _ => False) (PartVal w)) := by
 have hE : dollarF (n + 1) d q (s.data.toList.drop (a + 1)) = .ok (lit [36] q) (s.data.toList.drop (a + 1)) := by
  rw [drop_end s _ ha', dollarF, dollarG.eq_def]; rfl
 have HE := Lib.hid hE; clear hE
 have HN : Hid (named (s.data.toList.drop (a + 1)) = 0) := Lib.hid (by rw [drop_end s _ ha']; rfl)
 obtain ⟨h0, h1, h2, f1, _, hgl⟩ := h.cells
 have HT0 := Lib.hid (Lib.extract_to_end s (a + 1))
 have e1 : (0 : Int) ≤ (a : Int) + 1 := by omega
 have e2 : (a : Int) + 1 ≤ (s.size : Int) := by omega
 have hsz : (s.extract (a + 1) s.size).size ≤ 8192 := by simp [ByteArray.size_extract]; omega
 have HSZ := Lib.hid (extract_size s (a + 1) (by omega))
 generalize dollarF (n + 1) d q (s.data.toList.drop (a + 1)) = R at *
 go_enter Tryz.func114, Tryz.ntmps114
 go_wp2_with fail
 generalize s.extract (a + 1) s.size = t at *
 generalize hk : named t.data.toList = k at *
 have HK := Lib.hid hk; clear hk
 have hk0 : k = 0 := by have h1 : named t.data.toList = 0 := by rw [HT0.out]; exact HN.out
                        rw [← HK.out]; exact h1
 subst hk0
 have hk3 := HSZ.out
 have ht0 : ¬ 0 < t.size := by omega
 clear hk3
 have he := isEmpty_zero t ht0
 have hl := nil_zero t ht0
 have hp1 : Lib.hasPrefix t.data.toList [123] = false := by rw [hl]; rfl
 have hp2 : Lib.hasPrefix t.data.toList [40, 40] = false := by rw [hl]; rfl
 have hp3 : Lib.hasPrefix t.data.toList [40] = false := by rw [hl]; rfl
 have HLL := Lib.hid hl; clear hl
 go_wp2_with (first | (go_at_call 142; refine (named_calls _ _ (by omega)).mono ?_; rintro e w' ⟨rfl, rfl⟩; rw [HK.out]) | (go_at_call 70; refine (Tryz.strings_HasPrefix _ _ _).mono ?_; rintro e w' ⟨rfl, rfl⟩))
 refine (lit_calls _ _ _).mono ?_
 rintro e w1 ⟨rfl, hb1⟩
 have hc1 := Chg.of_below hb1
 have kB := row_chg (row_new (w.setCell ⟨g, 1, none⟩ (.int .i64 ((a : Int) + 1))) (.cells #[.int .i64 0, .bool false, .string ⟨#[]⟩, .string ⟨#[]⟩, .slice none 0 0] 103)) hc1 (fun e => e)
 have kG := row_chg (row_alloc (h.at' ((a : Int) + 1)) (.cells #[.int .i64 0, .bool false, .string ⟨#[]⟩, .string ⟨#[]⟩, .slice none 0 0] 103)) hc1 (fun e => e)
 rw [World.size_setCell] at kB
 have kcl := row_cells kB
 have kfr := row_free kB
 have hC : Chg (fun j => j = g ∨ False) w w1 := (((Chg.refl (fun j => j = g ∨ False) w).setCell (fun _ => .inl rfl) _).alloc _).trans hc1 (fun _ h _ => h.elim)
 have KG := Lib.hid kG; clear kG
 have hbl := row_lt kB
 have KB := Lib.hid kB; clear kB hb1 hc1
 go_wp2
 refine bodyPost_ret (v := .agg #[.int .i64 1, .bool q, .string ⟨#[36]⟩, .string ⟨#[]⟩, .slice none 0 0]) (by simp [results, Tryz.results114, go_sem, kcl]) rfl ?_
 rw [HE.out]
 refine ⟨_, a + 1, rfl, by omega, rfl, ⟨_, rfl, lit_rep _ [36] q |>.mono (fun _ h _ => h.elim)⟩, ?_, ?_⟩
 ·have hne : g ≠ w.heap.size := by omega
  exact row_far (row_far (row_far (row_far (row_far KG.out hne _) hne _) hne _) hne _) hne _
 ·exact ((((hC.setCell (fun h => absurd h (by simp)) _).setCell (fun h => absurd h (by simp)) _).setCell (fun h => absurd h (by simp)) _).setCell (fun h => absurd h (by simp)) _).setCell (fun h => absurd h (by simp)) _
set_option maxRecDepth 100000 in
set_option maxHeartbeats 4000000 in
theorem dollar_char (ha' : a + 1 < s.size) (hn : named (s.data.toList.drop (a + 1)) = 0) (hc : (digit s[a + 1] || special s[a + 1]) = true) : Calls Tryz.prog 114 #[.pointer (some ⟨g, 0, none⟩), .bool q] w (ScanPost w g s d (dollarF (n + 1) d q (s.data.toList.drop (a + 1))) (fun _ => False) (PartVal w)) := by
 have hE : dollarF (n + 1) d q (s.data.toList.drop (a + 1)) = .ok (.mk 2 q [s[a + 1]] [] []) (s.data.toList.drop (a + 2)) := by
  rw [byte_drop s _ ha'] at hn ⊢
  rw [dollarF, dollarG.eq_def, if_neg (by omega), if_neg (by omega)]
  simp only [hc, if_true]
 have _u := ha; clear _u
 have HE := Lib.hid hE; clear hE
 have HN := Lib.hid hn; clear hn
 obtain ⟨h0, h1, h2, f1, _, hgl⟩ := h.cells
 have HT0 := Lib.hid (Lib.extract_to_end s (a + 1))
 have e1 : (0 : Int) ≤ (a : Int) + 1 := by omega
 have e2 : (a : Int) + 1 ≤ (s.size : Int) := by omega
 have hsz : (s.extract (a + 1) s.size).size ≤ 8192 := by simp [ByteArray.size_extract]; omega
 have HSZ := Lib.hid (extract_size s (a + 1) (by omega))
 generalize dollarF (n + 1) d q (s.data.toList.drop (a + 1)) = R at *
 go_enter Tryz.func114, Tryz.ntmps114
 go_wp2_with fail
 generalize s.extract (a + 1) s.size = t at *
 generalize hk : named t.data.toList = k at *
 have HK := Lib.hid hk; clear hk
 have hk0 : k = 0 := by have h1 : named t.data.toList = 0 := by rw [HT0.out]; exact HN.out
                        rw [← HK.out]; exact h1
 subst hk0
 have hk3 := HSZ.out
 have ht0 : 0 < t.size := by omega
 clear hk3
 have he := isEmpty_pos t ht0
 have hc0 : t[0] = s[a + 1] := extract_head s (a + 1) ha' t HT0.out ht0
 have hc1 : t.data.toList = s[a + 1] :: s.data.toList.drop (a + 2) := by rw [HT0.out, byte_drop s (a + 1) ha']
 generalize s[a + 1] = c at *
 have HC1 := Lib.hid hc1; clear hc1
 have HX : Hid (t.extract 0 1 = bstr [c]) := Lib.hid (by rw [extract_one t 0 ht0, hc0])
 have e3 : (1 : Int) ≤ (t.size : Int) := by omega
 have hdg : digit c = digitB c.toNat := rfl
 rw [hdg] at hc
 cases hd : digitB c.toNat
 all_goals
  rw [hd] at hc
  try (have hsp : special c = true := by simpa using hc)
  clear hc
  go_wp2_with (first | (go_at_call 142; refine (named_calls _ _ (by omega)).mono ?_; rintro e w' ⟨rfl, rfl⟩; rw [HK.out]) | (go_at_call 125; refine (digit_calls _ _).mono ?_; rintro e w' ⟨rfl, rfl⟩) | (go_at_call 143; refine (special_calls _ _).mono ?_; rintro e w' ⟨rfl, rfl⟩))
  refine bodyPost_ret (v := .agg #[.int .i64 2, .bool q, .string (t.extract 0 1), .string ⟨#[]⟩, .slice none 0 0]) (by simp [results, Tryz.results114, go_sem]) rfl ?_
  rw [HE.out]
  refine ⟨_, a + 2, rfl, by omega, rfl, ⟨_, rfl, part_nil _ _ _ _ _ _ HX.out⟩, ?_, ((Chg.refl _ _).setCell (fun _ => .inl rfl) _).alloc _⟩
  exact row_alloc (h.at' ((a : Int) + 2)) (.cells #[.int .i64 2, .bool q, .string (t.extract 0 1), .string ⟨#[]⟩, .slice none 0 0] 103)
set_option maxRecDepth 100000 in
set_option maxHeartbeats 4000000 in
theorem dollar_else (ha' : a + 1 < s.size) (hn : named (s.data.toList.drop (a + 1)) = 0) (hc : (digit s[a + 1] || special s[a + 1]) = false) (h1 : (s[a + 1] == 123) = false) (h2 : (s[a + 1] == 40) = false) : Calls Tryz.prog 114 #[.pointer (some ⟨g, 0, none⟩), .bool q] w (ScanPost w g s d (dollarF (n + 1) d q (s.data.toList.drop (a + 1))) (fun _ => False) (PartVal w)) := by
 have hE : dollarF (n + 1) d q (s.data.toList.drop (a + 1)) = .ok (lit [36] q) (s.data.toList.drop (a + 1)) := by
  rw [byte_drop s _ ha'] at hn ⊢
  rw [dollarF, dollarG.eq_def, if_neg (by omega), if_neg (by omega)]
  simp only [hc, h1, h2, Bool.false_eq_true, if_false]
 have _u := ha; clear _u
 have HE := Lib.hid hE; clear hE
 have HN := Lib.hid hn; clear hn
 have H1 := Lib.hid h1; clear h1
 have H2 := Lib.hid h2; clear h2
 obtain ⟨h0, h1, h2, f1, _, hgl⟩ := h.cells
 have HT0 := Lib.hid (Lib.extract_to_end s (a + 1))
 have e1 : (0 : Int) ≤ (a : Int) + 1 := by omega
 have e2 : (a : Int) + 1 ≤ (s.size : Int) := by omega
 have hsz : (s.extract (a + 1) s.size).size ≤ 8192 := by simp [ByteArray.size_extract]; omega
 have HSZ := Lib.hid (extract_size s (a + 1) (by omega))
 generalize dollarF (n + 1) d q (s.data.toList.drop (a + 1)) = R at *
 go_enter Tryz.func114, Tryz.ntmps114
 go_wp2_with fail
 generalize s.extract (a + 1) s.size = t at *
 generalize hk : named t.data.toList = k at *
 have HK := Lib.hid hk; clear hk
 have hk0 : k = 0 := by have h1 : named t.data.toList = 0 := by rw [HT0.out]; exact HN.out
                        rw [← HK.out]; exact h1
 subst hk0
 have hk3 := HSZ.out
 have ht0 : 0 < t.size := by omega
 clear hk3
 have he := isEmpty_pos t ht0
 have hc0 : t[0] = s[a + 1] := extract_head s (a + 1) ha' t HT0.out ht0
 have hc1 : t.data.toList = s[a + 1] :: s.data.toList.drop (a + 2) := by rw [HT0.out, byte_drop s (a + 1) ha']
 generalize s[a + 1] = c at *
 have HC1 := Lib.hid hc1; clear hc1
 have hdg : digit c = digitB c.toNat := rfl
 rw [hdg] at hc
 have hd : digitB c.toNat = false := by revert hc; cases digitB c.toNat <;> simp
 have hsp : special c = false := by revert hc; cases special c <;> simp
 clear hc hdg
 have hp1 : Lib.hasPrefix t.data.toList [123] = false := by rw [HC1.out, prefix_one]; exact H1.out
 have hp2 : Lib.hasPrefix t.data.toList [40, 40] = false := by
  rw [HC1.out]
  cases s.data.toList.drop (a + 2) with
  | nil => exact prefix_two_one ..
  | cons e l => rw [prefix_two, H2.out]; rfl
 have hp3 : Lib.hasPrefix t.data.toList [40] = false := by rw [HC1.out, prefix_one]; exact H2.out
 go_wp2_with (first | (go_at_call 142; refine (named_calls _ _ (by omega)).mono ?_; rintro e w' ⟨rfl, rfl⟩; rw [HK.out]) | (go_at_call 70; refine (Tryz.strings_HasPrefix _ _ _).mono ?_; rintro e w' ⟨rfl, rfl⟩) | (go_at_call 125; refine (digit_calls _ _).mono ?_; rintro e w' ⟨rfl, rfl⟩) | (go_at_call 143; refine (special_calls _ _).mono ?_; rintro e w' ⟨rfl, rfl⟩))
 refine (lit_calls _ _ _).mono ?_
 rintro e w1 ⟨rfl, hb1⟩
 have hc1 := Chg.of_below hb1
 have kB := row_chg (row_new (w.setCell ⟨g, 1, none⟩ (.int .i64 ((a : Int) + 1))) (.cells #[.int .i64 0, .bool false, .string ⟨#[]⟩, .string ⟨#[]⟩, .slice none 0 0] 103)) hc1 (fun e => e)
 have kG := row_chg (row_alloc (h.at' ((a : Int) + 1)) (.cells #[.int .i64 0, .bool false, .string ⟨#[]⟩, .string ⟨#[]⟩, .slice none 0 0] 103)) hc1 (fun e => e)
 rw [World.size_setCell] at kB
 have kcl := row_cells kB
 have kfr := row_free kB
 have hC : Chg (fun j => j = g ∨ False) w w1 := (((Chg.refl (fun j => j = g ∨ False) w).setCell (fun _ => .inl rfl) _).alloc _).trans hc1 (fun _ h _ => h.elim)
 have KG := Lib.hid kG; clear kG
 have hbl := row_lt kB
 have KB := Lib.hid kB; clear kB hb1 hc1
 go_wp2
 refine bodyPost_ret (v := .agg #[.int .i64 1, .bool q, .string ⟨#[36]⟩, .string ⟨#[]⟩, .slice none 0 0]) (by simp [results, Tryz.results114, go_sem, kcl]) rfl ?_
 rw [HE.out]
 refine ⟨_, a + 1, rfl, by omega, rfl, ⟨_, rfl, lit_rep _ [36] q |>.mono (fun _ h _ => h.elim)⟩, ?_, ?_⟩
 ·have hne : g ≠ w.heap.size := by omega
  exact row_far (row_far (row_far (row_far (row_far KG.out hne _) hne _) hne _) hne _) hne _
 ·exact ((((hC.setCell (fun h => absurd h (by simp)) _).setCell (fun h => absurd h (by simp)) _).setCell (fun h => absurd h (by simp)) _).setCell (fun h => absurd h (by simp)) _).setCell (fun h => absurd h (by simp)) _
end
abbrev BAt (B b : Nat) (l : Bytes) (w : World) : Prop := Lib.IsBuilder 54 5 B b (Lib.byteCells l) w
set_option maxRecDepth 100000 in
set_option maxHeartbeats 1000000 in
theorem copyCheck_used (b : Nat) (w : World) (h0 : w.cell? ⟨b, 0, none⟩ = some (.pointer (some ⟨b, 0, none⟩))) :
  Calls Tryz.prog 69 #[.pointer (some ⟨b, 0, none⟩)] w fun e w' => e = .returned (.tuple #[]) ∧ w = w' := by
 obtain ⟨j, hj, _⟩ := Option.map_eq_some_iff.1 Tryz.Builder_Extra_169.toX72.sizeBuilder
 go_enter Tryz.func69, Tryz.ntmps69
 go_wp2
 rw [Lib.run_neq_ptr_same w _ Tryz.underlying51 hj]
 go_wp2
 go_end0
 exact ⟨rfl, rfl⟩
set_option maxRecDepth 100000 in
set_option maxHeartbeats 1000000 in
theorem copyCheck_fresh (b : Nat) (w : World) (h0 : w.cell? ⟨b, 0, none⟩ = some (.pointer none)) (hsh : w.shape? b = some (54, 2)) (hfz : w.frozen? ⟨b, 0, none⟩ = false) :
  Calls Tryz.prog 69 #[.pointer (some ⟨b, 0, none⟩)] w fun e w' => e = .returned (.tuple #[]) ∧ w.setCell ⟨b, 0, none⟩ (.pointer (some ⟨b, 0, none⟩)) = w' := by
 obtain ⟨j, hj, hjs⟩ := Option.map_eq_some_iff.1 Tryz.Builder_Extra_169.toX72.sizeBuilder
 go_enter Tryz.func69, Tryz.ntmps69
 go_wp2
 rw [Lib.run_to_unsafe w ⟨b, 0, none⟩ Tryz.underlying51 Tryz.underlying123 hj (by rw [hjs]; decide) hsh (Nat.zero_lt_succ 1)]
 simp only [Result.andThen]
 rw [Oper.upon_value]
 go_wp2
 rw [run_callFunc_extern Tryz.func83 (by kernel_rfl) (by kernel_rfl) (by kernel_rfl) (e := Extern.AbiNoEscape.same) (by kernel_rfl)]
 rw [Lib.run_noEscape]
 simp only [Result.andThen]
 rw [Oper.upon_value]
 go_wp2
 rw [Lib.run_from_unsafe w ⟨b, 0, none⟩ Tryz.underlying123 Tryz.underlying51 hj hsh Tryz.Builder_Extra_169.toX72.liesBuilder]
 simp only [Result.andThen]
 rw [Oper.upon_value]
 go_wp2
 go_end0
 exact ⟨rfl, rfl⟩
def BV (M b : Nat) (v : Value) (l : Bytes) (w : World) : Prop :=
 ∃ p, (p = .pointer none ∨ p = .pointer (some ⟨b, 0, none⟩)) ∧ w.heap[b]? = some (.cells #[p, v] 54 (0, 0)) ∧ w.ownsRow M 5 1 v l.length (Lib.byteCells l) ∧ v.ownBlock ≠ some b
theorem owns_down {w : World} {M B e sz n : Nat} {v : Value} {cs : List Value} (h : w.ownsRow M e sz v n cs) (hB : B ≤ M) : w.ownsRow B e sz v n cs := by
 refine ⟨h.1, ?_⟩
 rcases h.2 with h | ⟨g, cap, cur, h1, h2, rest⟩
 ·exact .inl h
 ·exact .inr ⟨g, cap, cur, h1, Nat.le_trans hB h2, rest⟩
theorem BV.bat {M B b : Nat} {v : Value} {l : Bytes} {w : World} (h : BV M b v l w) (hB : B ≤ b) (hM : B ≤ M) : BAt B b l w := by
 obtain ⟨p, hp, hb, ho, hn⟩ := h
 have ho := owns_down ho hM
 rcases hp with rfl | rfl
 ·exact .inl ⟨hB, v, hb, by rw [Lib.byteCells_length]; exact ho, hn⟩
 ·exact .inr ⟨hB, v, hb, by rw [Lib.byteCells_length]; exact ho, hn⟩
theorem BV.own {M b : Nat} {v : Value} {l : Bytes} {w : World} (h : BV M b v l w) : ∀ k, v.ownBlock = some k → M ≤ k ∧ k < w.heap.size := by
 obtain ⟨p, hp, hb, ho, hn⟩ := h
 exact fun k hk => ho.lt k hk
theorem BV.stay {S : Nat → Prop} {M b : Nat} {v : Value} {l : Bytes} {w w' : World} (h : BV M b v l w) (hc : Chg S w w') (hb : ¬ S b) (hv : ∀ k, v.ownBlock = some k → ¬ S k) : BV M b v l w' := by
 have hl := h.own
 obtain ⟨p, hp, hh, ho, hn⟩ := h
 exact ⟨p, hp, row_chg hh hc hb, ownsRow_block ho (fun k hk => hc.block k (hl k hk).2 (hv k hk)), hn⟩
theorem check_calls (M b : Nat) (v : Value) (l : Bytes) (w : World) (h : BV M b v l w) :
  Calls Tryz.prog 69 #[.pointer (some ⟨b, 0, none⟩)] w fun e w' => e = .returned (.tuple #[]) ∧ w'.heap[b]? = some (.cells #[.pointer (some ⟨b, 0, none⟩), v] 54 (0, 0)) ∧ w'.ownsRow M 5 1 v l.length (Lib.byteCells l) ∧ Chg (fun k => k = b) w w' := by
 have hown := h.own
 obtain ⟨p, hp, hh, ho, hn⟩ := h
 rcases hp with rfl | rfl
 ·refine (copyCheck_fresh b w (row_cells hh 0) (by simp [World.shape?, hh]) (row_free hh 0)).mono ?_
  rintro e w' ⟨rfl, rfl⟩
  have hc : Chg (fun k => k = b) w (w.setCell ⟨b, 0, none⟩ (.pointer (some ⟨b, 0, none⟩))) := (Chg.refl (fun k => k = b) w).setCell (p := ⟨b, 0, none⟩) (fun _ => rfl) _
  exact ⟨rfl, row_set hh 0 _, ownsRow_block ho (fun k hk => hc.block k (hown k hk).2 (fun e => hn (by rw [hk, e]))), hc⟩
 ·refine (copyCheck_used b w (row_cells hh 0)).mono ?_
  rintro e w' ⟨rfl, rfl⟩
  exact ⟨rfl, hh, ho, Chg.refl _ _⟩
def Wrote (M b : Nat) (v : Value) (l : Bytes) (w w' : World) : Prop := ∃ v1, BV M b v1 l w' ∧ Chg (fun k => k = b ∨ some k = v.ownBlock) w w'
theorem built_grown {M b n : Nat} {v v' : Value} {w w1 w2 : World} {l' : Bytes} (hbk : w1.heap[b]? = some (.cells #[.pointer (some ⟨b, 0, none⟩), v] 54 (0, 0))) (hne : v.ownBlock ≠ some b)
  (hc : Chg (fun k => k = b) w w1) (hg : w1.grownBy w2 v.ownBlock) (hown : w2.ownsRow M 5 1 v' n (Lib.byteCells l')) (hn : n = l'.length) :
  (w2.cell? ⟨b, 0, none⟩ = some (.pointer (some ⟨b, 0, none⟩)) ∧ w2.cell? ⟨b, 1, none⟩ = some v ∧ w2.frozen? ⟨b, 1, none⟩ = false ∧ b < w2.heap.size) ∧
   Wrote M b v l' w (w2.setCell ⟨b, 1, none⟩ v') ∧ ∃ A k c, v' = .slice A k c := by
 have hlt := row_lt hbk
 have hb2 : w2.heap[b]? = some (.cells #[.pointer (some ⟨b, 0, none⟩), v] 54 (0, 0)) := (hg.block b hlt (fun e => hne e.symm)).trans hbk
 subst hn
 have hvb : v'.ownBlock ≠ some b := Lib.ownBlock_ne hown hb2 (by decide)
 refine ⟨⟨row_cells hb2 0, row_cells hb2 1, row_free hb2 1, row_lt hb2⟩, ⟨v', ⟨_, .inr rfl, row_set hb2 1 v', ?_, hvb⟩, ?_⟩, ?_⟩
 ·exact ownsRow_block hown (fun k hk => Below.heap_setCell w2 _ _ k (fun e => hvb (by rw [hk, e])))
 ·exact ((hc.mono (fun k e _ => Or.inl e)).trans (Chg.of_grown hg) (fun k e _ => .inr e)).setCell (fun _ => .inl rfl) _
 ·rcases hown.2 with ⟨hv, _⟩ | ⟨g, cap, cur, hv, _⟩
  ·exact ⟨_, _, _, hv⟩
  ·exact ⟨_, _, _, hv⟩
set_option maxRecDepth 100000 in
set_option maxHeartbeats 2000000 in
theorem WriteString_calls (M b : Nat) (v : Value) (l : Bytes) (s : ByteArray) (w : World) (h : BV M b v l w) (hlen : l.length ≤ 1000000) (hs : s.size ≤ 1000000) (hM : M ≤ w.heap.size) :
  Calls Tryz.prog 52 #[.pointer (some ⟨b, 0, none⟩), .string s] w fun e w' => e = .returned (.tuple #[.int .i64 s.size, .nilIface]) ∧ Wrote M b v (l ++ s.data.toList) w w' := by
 obtain ⟨i0, hi, hz0, hz1, hz2⟩ := info_parts Tryz.Builder_Extra_169.infoByte
 have hbl := Lib.byteCells_length l
 have hne : v.ownBlock ≠ some b := by obtain ⟨p, _, _, _, hn⟩ := h; exact hn
 go_enter Tryz.func52, Tryz.ntmps52
 go_wp2_with fail
 refine Calls.mono (check_calls M b v l _ h) ?_
 rintro e w1 ⟨rfl, hbk, hown, hc1⟩
 have c1 : w1.cell? ⟨b, 1, none⟩ = some v := row_cells hbk 1
 have hlt := row_lt hbk
 have hz := hc1.size
 go_wp2_with (at_builtin; refine Lib.wpList_append_own_string _ rfl _ _ 52 9 rfl M 5 i0 Tryz.underlying52 Tryz.underlying9 hi hz0 hz1 hz2 _ _ _ rfl hown s rfl ?c3 ?c4 ?c5 ?_)
 case c3 => unfold maxLen; omega
 case c4 => omega
 case c5 => omega
 intro v' w2 hown' hg2 _
 obtain ⟨⟨d0, d1, f2, _⟩, hE, A, k, cc, rfl⟩ := built_grown (l' := l ++ s.data.toList) hbk hne hc1 hg2 (by rw [Lib.strCells_eq] at hown'; simpa [Lib.byteCells] using hown') (by simp [len_data])
 have HE := Lib.hid hE; clear hE hown' hown
 go_wp2
 go_ret2
 exact ⟨rfl, HE.out⟩
end Go.Proofs.YtdfnkmiabmjolaaGreatDoor
