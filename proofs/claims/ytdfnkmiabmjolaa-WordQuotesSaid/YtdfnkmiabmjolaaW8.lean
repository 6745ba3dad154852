/- Walks of package word: 'all'. -/
import Derived.Test.YtdfnkmiabmjolaaW7
import Derived.Deep.LoopGhost
namespace Go.Proofs.Ytdfnkmiabmjolaa
open Go.RowKit
set_option linter.unusedVariables false
set_option linter.unusedSimpArgs false

theorem allP_wt (n : Nat) : ∀ p : Part, p.wt ≤ n → (allP p).wt ≤ p.wt := by
  induction n with
  | zero => intro p hp; obtain ⟨k, q, t, o, w⟩ := p; simp [Part.wt] at hp
  | succ n ih =>
    intro p hp
    obtain ⟨k, q, t, o, w⟩ := p
    have key : ∀ (ps acc : List Part), Part.wts ps ≤ n → Part.wts (allL acc ps) ≤ Part.wts acc + Part.wts ps := by
      intro ps
      induction ps with
      | nil => intro acc _; simp [allL, Part.wts]
      | cons p ps ihp =>
        intro acc h
        simp only [Part.wts] at h
        have h1 := ih p (by omega)
        have h2 := ihp (add acc (allP p)) (by omega)
        have h3 := add_wt acc (allP p)
        simp only [allL, Part.wts]
        omega
    simp only [Part.wt] at hp
    have := key w [] (by omega)
    simp only [allP, Part.wt, Part.wts] at this ⊢
    omega

/-- The cells of an element of a row that is read. -/
theorem sl_get {w : World} {S : Nat → Prop} {e sz : Nat} {xs : List D} {v : Value} (h : Rep w S (.sl e sz xs) [v]) (hsz : 0 < sz) (i : Nat) (d : D) (hd : xs[i]? = some d) :
    ∃ b o c cs, v = .slice (some ⟨b, o, none⟩) xs.length c ∧ xs.length ≤ c ∧ c ≤ maxLen ∧ S b ∧ Rep w S d cs ∧ cs.length = sz ∧ ∀ j u, cs[j]? = some u → w.cell? ⟨b, o + (i * sz + j), none⟩ = some u := by
  obtain ⟨A, c, inner, h1, h2, h3, h4, h5⟩ := h
  obtain ⟨cs, hr, hl, hj⟩ := RepE.get h5 i d hd
  cases h1
  match cs, hl with
  | [], hl => exact absurd hl (by simp; omega)
  | u :: us, hl =>
    obtain ⟨b, o, rfl, hb, _⟩ := h4 _ _ (hj 0 u rfl)
    refine ⟨b, o, c, u :: us, rfl, h2, h3, hb, hr, hl, fun j x hx => ?_⟩
    obtain ⟨b', o', e, _, hc⟩ := h4 _ _ (hj j x hx)
    cases e
    exact hc

set_option maxRecDepth 100000 in
set_option maxHeartbeats 4000000 in
theorem all_not (w : World) (S : Nat → Prop) (p : Part) (cs : List Value) (hp : Rep w S p.d cs) :
    Calls Try.prog 60 #[.agg cs.toArray, .bool false] w fun en w' => ∃ cs', en = .returned (.agg cs'.toArray) ∧ Rep w' (fun k => S k ∨ w.heap.size ≤ k) p.d cs' ∧ Chg (fun _ => False) w w' := by
  obtain ⟨k, q, t, o, wd⟩ := p
  obtain ⟨A, c, rfl, hwv, _, _⟩ := part_rep2 hp
  go_enter Try.func60, Try.ntmps60
  go_wp2
  refine bodyPost_ret (v := .agg #[.int .i64 k, .bool q, .string (bstr t), .string (bstr o), .slice A wd.length c]) (by simp [results, Try.results60, go_sem]) rfl ⟨_, rfl, ?_, ?_⟩
  · exact (hp.stay (((Chg.refl (fun _ => False) _).alloc _).alloc _) (fun _ _ e => e)).mono (fun _ h _ => .inl h)
  · exact ((Chg.refl _ _).alloc _).alloc _

/-- What 'all' comes to. -/
def AllSaid (n : Nat) : Prop := ∀ (w : World) (S : Nat → Prop) (p : Part) (cs : List Value), (∀ k, S k → k < w.heap.size) → p.wt ≤ n → p.wt ≤ 400000 → Rep w S p.d cs →
    Calls Try.prog 60 #[.agg cs.toArray, .bool true] w fun en w' => ∃ cs', en = .returned (.agg cs'.toArray) ∧ Rep w' (fun k => S k ∨ w.heap.size ≤ k) (allP p).d cs' ∧ Chg (fun _ => False) w w'

theorem wt_get {wd : List Part} {k : Nat} {p : Part} (h : wd[k]? = some p) : p.wt + Part.wts (wd.drop (k + 1)) = Part.wts (wd.drop k) := by
  have hk := (List.getElem?_eq_some_iff.1 h).1
  rw [List.drop_eq_getElem_cons hk]
  have : wd[k] = p := (List.getElem?_eq_some_iff.1 h).2
  rw [this]
  rfl
theorem wts_drop (wd : List Part) (k : Nat) : Part.wts (wd.drop k) ≤ Part.wts wd := by
  have := Part.wts_append (wd.take k) (wd.drop k)
  rw [List.take_append_drop] at this
  omega

set_option maxRecDepth 100000 in
set_option maxHeartbeats 4000000 in
theorem all_yes (n : Nat) (IH : AllSaid n) : AllSaid (n + 1) := by
  intro w S p cs hS hn hb hp
  obtain ⟨kd, q, t, o, wd⟩ := p
  obtain ⟨A, c, rfl, hwv, hc, hmax⟩ := part_rep2 hp
  simp only [Part.wt] at hn hb
  have hlen := Part.length_le wd
  have hmax' : c ≤ 9223372036854775807 := by simpa [maxLen] using hmax
  go_enter Try.func60, Try.ntmps60
  go_wp2
  go_loopg [5, 15] wd.length (fun rk v i wr => ∃ (k : Nat) (acc : List Part), k + rk = wd.length ∧ i = .int .i64 k ∧ Own wr (fun j => S j ∨ w.heap.size + 2 ≤ j) 35 5 v (Part.ds acc) ∧ (∀ j, v.ownBlock = some j → w.heap.size + 2 ≤ j) ∧ Chg (fun _ => False) w wr ∧ w.heap.size + 2 ≤ wr.heap.size ∧
    wr.heap[w.heap.size]? = some (.cells #[.int .i64 kd, .bool true, .string (bstr t), .string (bstr o), .slice A wd.length c] 35 (0, 0)) ∧
    wr.heap[w.heap.size + 1]? = some (.cells #[.int .i64 0, .bool false, .string ⟨#[]⟩, .string ⟨#[]⟩, .slice none 0 0] 35 (0, 0)) ∧ Hid (allL acc (wd.drop k) = allL [] wd) ∧ Part.wts acc + Part.wts (wd.drop k) ≤ Part.wts wd)
  case atStart =>
    refine ⟨0, [], by omega, by simp, Own.nil _ _ _ _, by simp [Value.ownBlock], ((Chg.refl _ _).alloc _).alloc _, by simp, ?_, ?_, Lib.hid (by simp), by simp [Part.wts]⟩
    · exact row_alloc (row_new w _) _
    · simpa using row_new (w.alloc (.cells #[.int .i64 kd, .bool true, .string (bstr t), .string (bstr o), .slice A wd.length c] 35)) (.cells #[.int .i64 0, .bool false, .string ⟨#[]⟩, .string ⟨#[]⟩, .slice none 0 0] 35)
  case round =>
    obtain ⟨k, acc, hk, rfl, hO, hob, hC, hsz, hB0, hB1, HK, hwt⟩ := hrel
    by_cases hlt : k < wd.length
    · obtain ⟨A2, c2, hv, _, hm2⟩ := hO.form
      obtain ⟨p, hpk⟩ : ∃ p, wd[k]? = some p := ⟨wd[k], List.getElem?_eq_getElem hlt⟩
      obtain ⟨b, off, c', cs1, hv1, _, _, hb1, hr1, hl1, hcs⟩ := sl_get hwv (by omega) k p.d (by rw [Part.ds_map, List.getElem?_map, hpk]; rfl)
      obtain ⟨kd1, q1, t1, o1, wd1⟩ := p
      have hwp := wt_get hpk
      have hwd := wts_drop wd k
      obtain ⟨A1, c1, rfl, hwv1, hc1, hmax1⟩ := part_rep2 hr1
      simp only [Part.ds_length, Value.slice.injEq] at hv1
      obtain ⟨rfl, _, rfl⟩ := hv1
      have g0 := hC.cell (hcs 0 _ rfl) (fun e => e)
      have g1 := hC.cell (hcs 1 _ rfl) (fun e => e)
      have g2 := hC.cell (hcs 2 _ rfl) (fun e => e)
      have g3 := hC.cell (hcs 3 _ rfl) (fun e => e)
      have g4 := hC.cell (hcs 4 _ rfl) (fun e => e)
      clear hcs
      simp only [Nat.add_zero, ← Nat.add_assoc] at g0 g1 g2 g3 g4
      have HB0 := Lib.hid hB0; clear hB0
      have HB1 := Lib.hid hB1; clear hB1
      have Hv := Lib.hid hv; clear hv
      have Hpk := Lib.hid hpk; clear hpk
      have Hwp := Lib.hid hwp; clear hwp
      have Hk := Lib.hid hk; clear hk
      go_wp2_with fail
      refine (IH _ S (.mk kd1 q1 t1 o1 wd1) [.int .i64 kd1, .bool q1, .string (bstr t1), .string (bstr o1), .slice A1 wd1.length c1] (fun j h => by have := hS j h; simp; omega) (by have := Hwp.out; omega) (by have := Hwp.out; omega) (hr1.stay (hC.alloc _) (fun _ _ e => e))).mono ?_
      rintro e w1 ⟨cs', rfl, hr', hC'⟩
      go_wp2_with fail
      have hz1 : wr.heap.size + 1 ≤ w1.heap.size := by simpa using hC'.size
      have hO1 : Own w1 (fun j => S j ∨ w.heap.size + 2 ≤ j) 35 5 u5 (Part.ds acc) := (hO.stay ((Chg.refl (fun _ => False) _).alloc _) (fun _ _ e => e)).stay hC' (fun _ _ e => e)
      refine (add_calls w1 _ _ u5 acc (allP (.mk kd1 q1 t1 o1 wd1)) cs' hO1 hr' (fun j h hl => ?_) (by have := Hwp.out; have := allP_wt _ (.mk kd1 q1 t1 o1 wd1) (Nat.le_refl _); omega)).mono ?_
      · rcases h with h | h
        · exact ⟨.inl h, fun e => by have h1 := hob j e.symm; have h2 := hS j h; omega⟩
        · simp at h
          exact ⟨.inr (by omega), fun e => by have h1 := Own.lt hO e.symm; omega⟩
      · rintro e w2 ⟨v2, rfl, hO2, hC2, hat⟩
        have hz2 := hC2.size
        have hC02 : Chg (fun _ => False) w w2 := ((hC.alloc _).trans hC' (fun _ h _ => h)).trans hC2 (fun j h hl => by have := hob j h.symm; omega)
        have k0 := row_chg (row_chg (row_alloc HB0.out (.cells #[.int .i64 kd1, .bool q1, .string (bstr t1), .string (bstr o1), .slice A1 wd1.length c1] 35)) hC' (fun e => e)) hC2 (fun e => by have := hob _ e.symm; omega)
        have k1 := row_chg (row_chg (row_alloc HB1.out (.cells #[.int .i64 kd1, .bool q1, .string (bstr t1), .string (bstr o1), .slice A1 wd1.length c1] 35)) hC' (fun e => e)) hC2 (fun e => by have := hob _ e.symm; omega)
        have hadd := add_wt acc (allP (.mk kd1 q1 t1 o1 wd1))
        have hall := allP_wt _ (.mk kd1 q1 t1 o1 wd1) (Nat.le_refl _)
        have HKK : Hid (allL (add acc (allP (.mk kd1 q1 t1 o1 wd1))) (wd.drop (k + 1)) = allL [] wd) := Lib.hid (by
          rw [← HK.out, List.drop_eq_getElem_cons hlt, show wd[k] = .mk kd1 q1 t1 o1 wd1 from (List.getElem?_eq_some_iff.1 Hpk.out).2]
          rfl)
        have K0 := Lib.hid k0; clear k0
        have K1 := Lib.hid k1; clear k1
        go_wp2
        go_roundg (gk - 1)
        case measure => have := Hk.out; omega
        case rel =>
          refine ⟨k + 1, _, by have := Hk.out; omega, by go_num, hO2.mono (fun j h _ => h.elim id (fun h => .inr (by omega))), fun j hj => ?_, hC02, by omega, K0.out, K1.out, HKK, by have := Hwp.out; omega⟩
          rcases hat with h | ⟨b', h, hle⟩
          · exact hob j (h ▸ hj)
          · rw [hj] at h; cases h; omega
    · obtain ⟨A2, c2, rfl, _, hm2⟩ := hO.form
      obtain rfl : k = wd.length := by omega
      have hcl := row_cells hB0
      have hfr := row_free hB0
      have hcl1 := row_cells hB1
      have hfr1 := row_free hB1
      have HB0 := Lib.hid hB0; clear hB0
      have HB1 := Lib.hid hB1; clear hB1
      go_wp2
      refine bodyPost_ret (v := .agg #[.int .i64 kd, .bool true, .string (bstr t), .string (bstr o), .slice A2 (Part.ds acc).length c2]) (by simp [results, Try.results60, go_sem, hcl1]) rfl ⟨[.int .i64 kd, .bool true, .string (bstr t), .string (bstr o), .slice A2 (Part.ds acc).length c2], rfl, ?_, ?_⟩
      · have e : acc = allL [] wd := by have := HK.out; rwa [List.drop_length] at this
        have HR : Rep wr (fun j => S j ∨ w.heap.size + 2 ≤ j) (Part.d (allP (.mk kd q t o wd))) [.int .i64 kd, .bool true, .string (bstr t), .string (bstr o), .slice A2 (Part.ds acc).length c2] := by
          simp only [allP]
          rw [← e]
          exact part_rep.2 ⟨_, rfl, hO.rep⟩
        refine (HR.stay ((((((((Chg.refl (fun j => j = w.heap.size ∨ j = w.heap.size + 1) wr).setCell (fun _ => .inl rfl) _).setCell (fun _ => .inr rfl) _).setCell (fun _ => .inr rfl) _).setCell (fun _ => .inr rfl) _).setCell (fun _ => .inr rfl) _).setCell (fun _ => .inr rfl) _)) ?_).mono ?_
        · rintro j (h | h) (rfl | rfl)
          · exact absurd (hS _ h) (by omega)
          · exact absurd (hS _ h) (by omega)
          · omega
          · omega
        · exact fun j h _ => h.imp id (fun h => by omega)
      · have nl : ¬ w.heap.size < w.heap.size := by omega
        exact (((((hC.setCell (fun h => absurd h (by simp)) _).setCell (fun h => absurd h (by simp)) _).setCell (fun h => absurd h (by simp)) _).setCell (fun h => absurd h (by simp)) _).setCell (fun h => absurd h (by simp)) _).setCell (fun h => absurd h (by simp)) _

theorem all_said : ∀ n, AllSaid n
  | 0 => fun w S p cs _ hn => by obtain ⟨k, q, t, o, wd⟩ := p; simp [Part.wt] at hn
  | n + 1 => all_yes n (all_said n)

theorem all_calls (w : World) (S : Nat → Prop) (p : Part) (q : Bool) (cs : List Value) (hb : p.wt ≤ 400000) (hp : Rep w S p.d cs) :
    Calls Try.prog 60 #[.agg cs.toArray, .bool q] w fun en w' => ∃ cs', en = .returned (.agg cs'.toArray) ∧ Rep w' (fun k => S k ∨ w.heap.size ≤ k) (allB p q).d cs' ∧ Chg (fun _ => False) w w' := by
  cases q
  · exact all_not w S p cs hp
  · refine (all_said _ w (fun k => S k ∧ k < w.heap.size) p cs (fun k h => h.2) (Nat.le_refl _) hb hp.bound).mono ?_
    rintro e w' ⟨cs', rfl, h, hc⟩
    exact ⟨cs', rfl, h.mono (fun k h _ => h.imp (fun h => h.1) id), hc⟩
end Go.Proofs.Ytdfnkmiabmjolaa
