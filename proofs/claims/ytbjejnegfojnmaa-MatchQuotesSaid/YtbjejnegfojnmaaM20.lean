/- Walks of strings.Builder's writing methods. -/
import Derived.Test.YtbjejnegfojnmaaM19
import Derived.Test.YtbjejnegfojnmaaShelf
namespace Go.Proofs.Ytbjejnegfojnmaa
open Go.RowKit
set_option linter.unusedVariables false
set_option linter.unusedSimpArgs false

abbrev BAt (B b : Nat) (l : Bytes) (w : World) : Prop := Lib.IsBuilder 39 5 B b (Lib.byteCells l) w

set_option maxRecDepth 100000 in
set_option maxHeartbeats 1000000 in
theorem copyCheck_used (b : Nat) (w : World) (h0 : w.cell? ⟨b, 0, none⟩ = some (.pointer (some ⟨b, 0, none⟩))) :
    Calls Try.prog 31 #[.pointer (some ⟨b, 0, none⟩)] w fun e w' => e = .returned (.tuple #[]) ∧ w = w' := by
  obtain ⟨j, hj, _⟩ := Option.map_eq_some_iff.1 Try.Builder_Extra_169.toX72.sizeBuilder
  go_enter Try.func31, Try.ntmps31
  go_wp2
  rw [Lib.run_neq_ptr_same w _ Try.underlying37 hj]
  go_wp2
  go_end0
  exact ⟨rfl, rfl⟩

set_option maxRecDepth 100000 in
set_option maxHeartbeats 1000000 in
theorem copyCheck_fresh (b : Nat) (w : World) (h0 : w.cell? ⟨b, 0, none⟩ = some (.pointer none)) (hsh : w.shape? b = some (39, 2)) (hfz : w.frozen? ⟨b, 0, none⟩ = false) :
    Calls Try.prog 31 #[.pointer (some ⟨b, 0, none⟩)] w fun e w' => e = .returned (.tuple #[]) ∧ w.setCell ⟨b, 0, none⟩ (.pointer (some ⟨b, 0, none⟩)) = w' := by
  obtain ⟨j, hj, hjs⟩ := Option.map_eq_some_iff.1 Try.Builder_Extra_169.toX72.sizeBuilder
  go_enter Try.func31, Try.ntmps31
  go_wp2
  rw [Lib.run_to_unsafe w ⟨b, 0, none⟩ Try.underlying37 Try.underlying58 hj (by rw [hjs]; decide) hsh (Nat.zero_lt_succ 1)]
  simp only [Result.andThen]
  rw [Oper.upon_value]
  go_wp2
  rw [run_callFunc_extern Try.func36 (by kernel_rfl) (by kernel_rfl) (by kernel_rfl) (e := Extern.AbiNoEscape.same) (by kernel_rfl)]
  rw [Lib.run_noEscape]
  simp only [Result.andThen]
  rw [Oper.upon_value]
  go_wp2
  rw [Lib.run_from_unsafe w ⟨b, 0, none⟩ Try.underlying58 Try.underlying37 hj hsh Try.Builder_Extra_169.toX72.liesBuilder]
  simp only [Result.andThen]
  rw [Oper.upon_value]
  go_wp2
  go_end0
  exact ⟨rfl, rfl⟩

/-- A builder in block b: its buffer is v, its bytes are l; the buffer's block is one from M on. -/
def BV (M b : Nat) (v : Value) (l : Bytes) (w : World) : Prop :=
  ∃ p, (p = .pointer none ∨ p = .pointer (some ⟨b, 0, none⟩)) ∧ w.heap[b]? = some (.cells #[p, v] 39 (0, 0)) ∧ w.ownsRow M 5 1 v l.length (Lib.byteCells l) ∧ v.ownBlock ≠ some b
theorem owns_down {w : World} {M B e sz n : Nat} {v : Value} {cs : List Value} (h : w.ownsRow M e sz v n cs) (hB : B ≤ M) : w.ownsRow B e sz v n cs := by
  refine ⟨h.1, ?_⟩
  rcases h.2 with h | ⟨g, cap, cur, h1, h2, rest⟩
  · exact .inl h
  · exact .inr ⟨g, cap, cur, h1, Nat.le_trans hB h2, rest⟩
theorem BV.bat {M B b : Nat} {v : Value} {l : Bytes} {w : World} (h : BV M b v l w) (hB : B ≤ b) (hM : B ≤ M) : BAt B b l w := by
  obtain ⟨p, hp, hb, ho, hn⟩ := h
  have ho := owns_down ho hM
  rcases hp with rfl | rfl
  · exact .inl ⟨hB, v, hb, by rw [Lib.byteCells_length]; exact ho, hn⟩
  · exact .inr ⟨hB, v, hb, by rw [Lib.byteCells_length]; exact ho, hn⟩
theorem BV.own {M b : Nat} {v : Value} {l : Bytes} {w : World} (h : BV M b v l w) : ∀ k, v.ownBlock = some k → M ≤ k ∧ k < w.heap.size := by
  obtain ⟨p, hp, hb, ho, hn⟩ := h
  exact fun k hk => ho.lt k hk
theorem BV.stay {S : Nat → Prop} {M b : Nat} {v : Value} {l : Bytes} {w w' : World} (h : BV M b v l w) (hc : Chg S w w') (hb : ¬ S b) (hv : ∀ k, v.ownBlock = some k → ¬ S k) : BV M b v l w' := by
  have hl := h.own
  obtain ⟨p, hp, hh, ho, hn⟩ := h
  exact ⟨p, hp, row_chg hh hc hb, ownsRow_block ho (fun k hk => hc.block k (hl k hk).2 (hv k hk)), hn⟩

theorem check_calls (M b : Nat) (v : Value) (l : Bytes) (w : World) (h : BV M b v l w) :
    Calls Try.prog 31 #[.pointer (some ⟨b, 0, none⟩)] w fun e w' => e = .returned (.tuple #[]) ∧ w'.heap[b]? = some (.cells #[.pointer (some ⟨b, 0, none⟩), v] 39 (0, 0)) ∧ w'.ownsRow M 5 1 v l.length (Lib.byteCells l) ∧ Chg (fun k => k = b) w w' := by
  have hown := h.own
  obtain ⟨p, hp, hh, ho, hn⟩ := h
  rcases hp with rfl | rfl
  · refine (copyCheck_fresh b w (row_cells hh 0) (by simp [World.shape?, hh]) (row_free hh 0)).mono ?_
    rintro e w' ⟨rfl, rfl⟩
    have hc : Chg (fun k => k = b) w (w.setCell ⟨b, 0, none⟩ (.pointer (some ⟨b, 0, none⟩))) := (Chg.refl (fun k => k = b) w).setCell (p := ⟨b, 0, none⟩) (fun _ => rfl) _
    exact ⟨rfl, row_set hh 0 _, ownsRow_block ho (fun k hk => hc.block k (hown k hk).2 (fun e => hn (by rw [hk, e]))), hc⟩
  · refine (copyCheck_used b w (row_cells hh 0)).mono ?_
    rintro e w' ⟨rfl, rfl⟩
    exact ⟨rfl, hh, ho, Chg.refl _ _⟩

/-- What has become of a builder that was written to. -/
def Wrote (M b : Nat) (v : Value) (l : Bytes) (w w' : World) : Prop := ∃ v1, BV M b v1 l w' ∧ Chg (fun k => k = b ∨ some k = v.ownBlock) w w'

/-- Behind an append to the buffer: what the builder's block reads, and what it is once the buffer is stored. -/
theorem built_grown {M b n : Nat} {v v' : Value} {w w1 w2 : World} {l' : Bytes} (hbk : w1.heap[b]? = some (.cells #[.pointer (some ⟨b, 0, none⟩), v] 39 (0, 0))) (hne : v.ownBlock ≠ some b)
    (hc : Chg (fun k => k = b) w w1) (hg : w1.grownBy w2 v.ownBlock) (hown : w2.ownsRow M 5 1 v' n (Lib.byteCells l')) (hn : n = l'.length) :
    (w2.cell? ⟨b, 0, none⟩ = some (.pointer (some ⟨b, 0, none⟩)) ∧ w2.cell? ⟨b, 1, none⟩ = some v ∧ w2.frozen? ⟨b, 1, none⟩ = false ∧ b < w2.heap.size) ∧
      Wrote M b v l' w (w2.setCell ⟨b, 1, none⟩ v') ∧ ∃ A k c, v' = .slice A k c := by
  have hlt := row_lt hbk
  have hb2 : w2.heap[b]? = some (.cells #[.pointer (some ⟨b, 0, none⟩), v] 39 (0, 0)) := (hg.block b hlt (fun e => hne e.symm)).trans hbk
  subst hn
  have hvb : v'.ownBlock ≠ some b := Lib.ownBlock_ne hown hb2 (by decide)
  refine ⟨⟨row_cells hb2 0, row_cells hb2 1, row_free hb2 1, row_lt hb2⟩, ⟨v', ⟨_, .inr rfl, row_set hb2 1 v', ?_, hvb⟩, ?_⟩, ?_⟩
  · exact ownsRow_block hown (fun k hk => Below.heap_setCell w2 _ _ k (fun e => hvb (by rw [hk, e])))
  · exact ((hc.mono (fun k e _ => Or.inl e)).trans (Chg.of_grown hg) (fun k e _ => .inr e)).setCell (fun _ => .inl rfl) _
  · rcases hown.2 with ⟨hv, _⟩ | ⟨g, cap, cur, hv, _⟩
    · exact ⟨_, _, _, hv⟩
    · exact ⟨_, _, _, hv⟩

set_option maxRecDepth 100000 in
set_option maxHeartbeats 2000000 in
theorem WriteByte_calls (M b : Nat) (v : Value) (l : Bytes) (c : UInt8) (w : World) (h : BV M b v l w) (hlen : l.length ≤ 1000000) (hM : M ≤ w.heap.size) :
    Calls Try.prog 23 #[.pointer (some ⟨b, 0, none⟩), .int .u8 c.toNat] w fun e w' => e = .returned .nilIface ∧ Wrote M b v (l ++ [c]) w w' := by
  obtain ⟨i0, hi, hz0, hz1, hz2⟩ := info_parts Try.Builder_Extra_169.infoByte
  have hbl := Lib.byteCells_length l
  have hne : v.ownBlock ≠ some b := by obtain ⟨p, _, _, _, hn⟩ := h; exact hn
  go_enter Try.func23, Try.ntmps23
  go_wp2_with fail
  refine Calls.mono (check_calls M b v l _ h) ?_
  rintro e w1 ⟨rfl, hbk, hown, hc1⟩
  have c1 : w1.cell? ⟨b, 1, none⟩ = some v := row_cells hbk 1
  have hlt := row_lt hbk
  have hz := hc1.size
  go_wp2_with (at_builtin; refine wpList_append_own _ rfl _ _ 27 rfl M 5 i0 (.int .u8 0) 1 1 Try.underlying27 hi hz0 hz1 hz2 rfl (by decide) _ _ _ rfl (hown.alloc _) ⟨w1.heap.size, 0, none⟩ 1 1 [.int .u8 c.toNat] rfl rfl ?c1 ?c2 ?c3 ?c4 ?c5 ?_)
  case c1 =>
    intro j u hj
    match j, hj with
    | 0, hj => simp at hj; subst hj; simp [Addr.add]
  case c2 => intro u hu; simp at hu; subst hu; rfl
  case c3 => unfold maxLen; omega
  case c4 => omega
  case c5 => simp; omega
  intro v' w2 hown' hgrow _
  have hg2 : w1.grownBy w2 v.ownBlock := World.grownBy.trans (World.grownBy_alloc w1 _ _) hgrow
  obtain ⟨⟨d0, d1, f2, _⟩, hE, A, k, cc, rfl⟩ := built_grown (l' := l ++ [c]) hbk hne hc1 hg2 (by simpa [Lib.byteCells] using hown') (by simp)
  have HE := Lib.hid hE; clear hE hown' hown
  go_wp2
  go_ret
  exact ⟨rfl, HE.out⟩

set_option maxRecDepth 100000 in
set_option maxHeartbeats 2000000 in
theorem WriteString_calls (M b : Nat) (v : Value) (l : Bytes) (s : ByteArray) (w : World) (h : BV M b v l w) (hlen : l.length ≤ 1000000) (hs : s.size ≤ 1000000) (hM : M ≤ w.heap.size) :
    Calls Try.prog 25 #[.pointer (some ⟨b, 0, none⟩), .string s] w fun e w' => e = .returned (.tuple #[.int .i64 s.size, .nilIface]) ∧ Wrote M b v (l ++ s.data.toList) w w' := by
  obtain ⟨i0, hi, hz0, hz1, hz2⟩ := info_parts Try.Builder_Extra_169.infoByte
  have hbl := Lib.byteCells_length l
  have hne : v.ownBlock ≠ some b := by obtain ⟨p, _, _, _, hn⟩ := h; exact hn
  go_enter Try.func25, Try.ntmps25
  go_wp2_with fail
  refine Calls.mono (check_calls M b v l _ h) ?_
  rintro e w1 ⟨rfl, hbk, hown, hc1⟩
  have c1 : w1.cell? ⟨b, 1, none⟩ = some v := row_cells hbk 1
  have hlt := row_lt hbk
  have hz := hc1.size
  go_wp2_with (at_builtin; refine Lib.wpList_append_own_string _ rfl _ _ 27 9 rfl M 5 i0 Try.underlying27 Try.underlying9 hi hz0 hz1 hz2 _ _ _ rfl hown s rfl ?c3 ?c4 ?c5 ?_)
  case c3 => unfold maxLen; omega
  case c4 => omega
  case c5 => omega
  intro v' w2 hown' hg2 _
  obtain ⟨⟨d0, d1, f2, _⟩, hE, A, k, cc, rfl⟩ := built_grown (l' := l ++ s.data.toList) hbk hne hc1 hg2 (by rw [Lib.strCells_eq] at hown'; simpa [Lib.byteCells] using hown') (by simp [len_data])
  have HE := Lib.hid hE; clear hE hown' hown
  go_wp2
  go_ret2
  exact ⟨rfl, HE.out⟩
end Go.Proofs.Ytbjejnegfojnmaa
