/- Walks of the law's comparisons: equal trees are the same. Walks of the laws of syntax: the chapter's examples. Plain laws: what is put ahead of a script and behind it. append of a whole slice to a row of the call's own. Plain laws: plain words ahead of a byte that ends them. Plain laws: a script of the word a, with signs between. Plain laws: a script in braces, in parentheses, in a loop, behind a condition, in a function. What the statements of syntax share. -/
import Derived.Test.YtdfnkmiabmjolaaK13
namespace Go.Proofs.Ytdfnkmiabmjolaa
open Go.RowKit
set_option linter.unusedVariables false

theorem same_all : ∀ n, CmdsSame n ∧ ListsSame n
  | 0 => ⟨fun _ _ _ _ _ _ h => absurd h (Nat.not_lt_zero _), fun _ _ _ _ _ _ h => absurd h (Nat.not_lt_zero _)⟩
  | n + 1 => ⟨fun w S1 S2 v1 v2 cs h h1 h2 => cmds_step n (same_all n).2 w S1 S2 v1 v2 cs (Nat.lt_succ_iff.1 h) h1 h2,
      fun w S1 S2 v1 v2 ls h h1 h2 => lists_step n (same_all n).1 w S1 S2 v1 v2 ls (Nat.lt_succ_iff.1 h) h1 h2⟩
theorem lists_same (w : World) (S1 S2 : Nat → Prop) (v1 v2 : Value) (ls : List Lst) (h1 : Rep w S1 (.sl 44 2 (Lst.ds ls)) [v1]) (h2 : Rep w S2 (.sl 44 2 (Lst.ds ls)) [v2]) :
    Calls Try.prog 25 #[v1, v2] w fun e w' => e = .returned (.bool true) ∧ Chg (fun _ => False) w w' :=
  (same_all (SizeOf.sizeOf ls + 1)).2 w S1 S2 v1 v2 ls (Nat.lt_succ_self _) h1 h2
end Go.Proofs.Ytdfnkmiabmjolaa
namespace Go.Proofs.Ytdfnkmiabmjolaa
open Go.RowKit
set_option linter.unusedVariables false
set_option linter.unusedSimpArgs false

def wd1 (c : UInt8) : List Part := [.mk 1 false [c] [] []]
def cmdC (c : UInt8) : Cmd := .mk 1 [] [] [wd1 c] [] [] [] [] []
def lstsA : List Lst := [.mk [.mk false [cmdC 97], .mk false [cmdC 98], .mk false [cmdC 99]] [[38, 38], [124, 124]]]
def ifB : Cmd := .mk 4 [] [] [] [.mk [.mk false [cmdC 97]] []] [.mk [.mk false [cmdC 98]] []] [] [] [⟨1, [62], wd1 102⟩]
def lstsB : List Lst := [.mk [.mk false [ifB]] []]
theorem awake_a : parseF 49 0 [97, 32, 38, 38, 32, 98, 32, 124, 124, 32, 99] = .ok lstsA [] := by kernel_rfl
theorem awake_b : parseF 81 0 [105, 102, 32, 97, 59, 32, 116, 104, 101, 110, 32, 98, 59, 32, 102, 105, 32, 62, 102] = .ok lstsB [] := by kernel_rfl
theorem awake_c : parseF 17 0 [97, 32, 124] = .err 0 62 := by kernel_rfl
theorem awake_d : parseF 13 0 [102, 105] = .err 2 61 := by kernel_rfl

set_option maxRecDepth 100000 in
set_option maxHeartbeats 2000000 in
theorem law_awake (w : World) : Calls Try.prog 23 #[] w fun e w' => e = .returned (.bool true) ∧ Chg (fun _ => False) w w' := by
  have P1 := Parse_calls ⟨#[97, 32, 38, 38, 32, 98, 32, 124, 124, 32, 99]⟩ w 49 (by decide) (by decide)
  rw [show parseF 49 0 ((⟨#[97, 32, 38, 38, 32, 98, 32, 124, 124, 32, 99]⟩ : ByteArray).data.toList) = .ok lstsA [] from awake_a] at P1
  have P2 := fun w => Parse_calls ⟨#[105, 102, 32, 97, 59, 32, 116, 104, 101, 110, 32, 98, 59, 32, 102, 105, 32, 62, 102]⟩ w 81 (by decide) (by decide)
  rw [show parseF 81 0 ((⟨#[105, 102, 32, 97, 59, 32, 116, 104, 101, 110, 32, 98, 59, 32, 102, 105, 32, 62, 102]⟩ : ByteArray).data.toList) = .ok lstsB [] from awake_b] at P2
  have P3 := fun w => Parse_calls ⟨#[97, 32, 124]⟩ w 17 (by decide) (by decide)
  rw [show parseF 17 0 ((⟨#[97, 32, 124]⟩ : ByteArray).data.toList) = .err 0 62 from awake_c] at P3
  have P4 := fun w => Parse_calls ⟨#[102, 105]⟩ w 13 (by decide) (by decide)
  rw [show parseF 13 0 ((⟨#[102, 105]⟩ : ByteArray).data.toList) = .err 2 61 from awake_d] at P4
  go_enter Try.func23, Try.ntmps23
  go_wp2_with fail
  refine Calls.mono P1 ?_
  clear P1
  rintro e w1 ⟨hC1, A1, c1, rfl, hO1⟩
  go_wp2_with fail
  refine Calls.mono (P2 w1) ?_
  clear P2
  rintro e w2 ⟨hC2, A2, c2, rfl, hO2⟩
  have hO3 := hO1.stay hC2 (fun _ _ e => e)
  have hC3 := hC1.trans hC2 (fun _ h _ => h)
  clear hO1 hC1 hC2
  go_wp2_with fail
  refine Calls.mono (P3 w2) ?_
  clear P3
  rintro e w3 ⟨hC4, rfl, _⟩
  have hO4 := hO3.stay hC4 (fun _ _ e => e)
  have hO5 := hO2.stay hC4 (fun _ _ e => e)
  have hC5 := hC3.trans hC4 (fun _ h _ => h)
  clear hO3 hO2 hC3 hC4
  go_wp2_with fail
  refine Calls.mono (P4 w3) ?_
  clear P4
  rintro e w4 ⟨hC6, rfl, _⟩
  have ha := hO4.stay hC6 (fun _ _ e => e)
  have hb := hO5.stay hC6 (fun _ _ e => e)
  have hC := hC5.trans hC6 (fun _ h _ => h)
  clear hO4 hO5 hC5 hC6
  simp only [lstsA, lstsB, Lst.ds_map, List.map_cons, List.map_nil, List.length_cons, List.length_nil, Nat.zero_add] at ha hb ⊢
  obtain ⟨b1, o1, _, cs1, hv1, _, _, _, hr1, _, hcs1⟩ := sl_get ha (by omega) 0 _ rfl
  simp only [List.length_cons, List.length_nil, Nat.zero_add, Value.slice.injEq] at hv1
  obtain ⟨rfl, _, rfl⟩ := hv1
  obtain ⟨x1, x2, rfl, hp1, hs1⟩ := lst_rep.1 hr1
  simp only [Pip.ds_map, List.map_cons, List.map_nil] at hp1 hs1
  obtain ⟨Ap, cp, rfl⟩ := sl_form hp1
  obtain ⟨b2, o2, c2', cs2, hv2, _, _, _, hr2, _, hcs2⟩ := sl_get hs1 (by omega) 1 _ rfl
  cases hv2
  have e2 : cs2 = [.string ⟨#[124, 124]⟩] := hr2
  subst e2
  obtain ⟨b3, o3, c3', cs3, hv3, _, _, _, hr3, _, hcs3⟩ := sl_get hb (by omega) 0 _ rfl
  simp only [List.length_cons, List.length_nil, Nat.zero_add, Value.slice.injEq] at hv3
  obtain ⟨rfl, _, rfl⟩ := hv3
  obtain ⟨x3, x4, rfl, hp3, _⟩ := lst_rep.1 hr3
  simp only [Pip.ds_map, List.map_cons, List.map_nil] at hp3
  obtain ⟨b4, o4, c4', cs4, hv4, _, _, _, hr4, _, hcs4⟩ := sl_get hp3 (by omega) 0 _ rfl
  cases hv4
  obtain ⟨x5, rfl, hp5⟩ := pip_rep.1 hr4
  simp only [Cmd.ds_map, List.map_cons, List.map_nil] at hp5
  obtain ⟨b5, o5, c5', cs5, hv5, _, _, _, hr5, _, hcs5⟩ := sl_get hp5 (by omega) 0 _ rfl
  cases hv5
  obtain ⟨y1, y2, y3, y4, y5, y6, y7, rfl, _, _, _, _, _, _, hy7⟩ := cmd_rep.1 hr5
  obtain ⟨A7, c7, rfl⟩ := sl_form hy7
  have g1 := hcs1 0 _ rfl
  have g2 := hcs1 1 _ rfl
  have g3 := hcs2 0 _ rfl
  have g4 := hcs3 0 _ rfl
  have g5 := hcs4 1 _ rfl
  have g6 := hcs5 0 _ rfl
  have g7 := hcs5 8 _ rfl
  simp only [Nat.zero_mul, Nat.one_mul, Nat.mul_one, Nat.add_zero, Nat.zero_add, List.length_cons, List.length_nil, List.map_cons, List.map_nil] at g1 g2 g3 g4 g5 g6 g7
  clear hcs1 hcs2 hcs3 hcs4 hcs5 hr1 hr2 hr3 hr4 hr5 hp1 hs1 hp3 hp5 hy7 ha hb
  go_wp2
  go_ret
  exact ⟨rfl, hC⟩
end Go.Proofs.Ytdfnkmiabmjolaa
namespace Go.Proofs.Ytdfnkmiabmjolaa
set_option linter.unusedVariables false

theorem drop_to_nl : ∀ (b : Bytes), (∀ c ∈ b, c ≠ 10) → ∀ y : Bytes, (b ++ 10 :: y).dropWhile (fun d => !(d == 10)) = 10 :: y
  | [], _, _ => rfl
  | c :: b, h, y => by
    have h1 : (c == 10) = false := by simpa using h c (by simp)
    rw [List.cons_append, List.dropWhile_cons, h1]
    exact drop_to_nl b (fun c hc => h c (by simp [hc])) y
theorem drop_all : ∀ (b : Bytes), (∀ c ∈ b, c ≠ 10) → b.dropWhile (fun d => !(d == 10)) = []
  | [], _ => rfl
  | c :: b, h => by
    have h1 : (c == 10) = false := by simpa using h c (by simp)
    rw [List.dropWhile_cons, h1]
    exact drop_all b (fun c hc => h c (by simp [hc]))
theorem linesF_up : ∀ (n m : Nat) (r : Bytes), r.length < n → n ≤ m → linesF m r = linesF n r
  | 0, _, _, h, _ => absurd h (Nat.not_lt_zero _)
  | n + 1, m, r, h, hm => by
    obtain ⟨m', rfl⟩ : ∃ m', m = m' + 1 := ⟨m - 1, by omega⟩
    have hb := blanks_le r
    rw [linesF, linesF]
    cases hq : blanks r with
    | nil => rfl
    | cons c r' =>
      rw [hq] at hb
      simp only [List.length_cons] at hb
      dsimp only
      split
      · exact linesF_up n m' r' (by omega) (by omega)
      · rfl
theorem lines_step {r r' : Bytes} (h : blanks r = 10 :: r') : lines r = lines r' := by
  have hb := blanks_le r
  rw [h] at hb
  simp only [List.length_cons] at hb
  unfold lines
  rw [linesF, h]
  dsimp only
  rw [if_pos (by rfl)]
  exact linesF_up _ _ _ (by omega) (by omega)
theorem lines_end {r : Bytes} (h : blanks r = []) : lines r = [] := by
  unfold lines
  rw [linesF, h]
theorem lines_of_blanks {r r' : Bytes} (h : blanks r = blanks r') : lines r = lines r' := by
  unfold lines
  rw [linesF, linesF, h]
  have h1 := blanks_le r
  have h2 := blanks_le r'
  rw [h] at h1
  cases hq : blanks r' with
  | nil => rfl
  | cons c t =>
    rw [hq] at h1 h2
    simp only [List.length_cons] at h1 h2
    dsimp only
    split
    · rcases Nat.le_total r.length r'.length with h | h
      · exact (linesF_up _ _ _ (by omega) h).symm
      · exact linesF_up _ _ _ (by omega) h
    · rfl
theorem parse_none {n : Nat} {t : Bytes} (h : lines t = []) : parseF (n + 1) 0 t = .ok [] [] := by
  rw [parseF, parseG, h]
  rfl
/-- Newlines, a remark and blanks ahead of a script and behind it change nothing. -/
theorem parse_blanks {n n2 : Nat} {s rem r1 : Bytes} {a : List Lst} (hrem : ∀ c ∈ rem, c ≠ 10) (hs : parseF n 0 s = .ok a r1) (hn : n ≤ n2) :
    parseF n2 0 ([10, 9, 35] ++ rem ++ [10, 32] ++ s ++ [10, 32, 92, 10, 32, 35] ++ rem) = .ok a [] := by
  obtain ⟨m, hm, _, _⟩ := parse_ok hs
  have ht : lines ([32, 92, 10, 32, 35] ++ rem) = [] := by
    refine lines_end ?_
    show blanks (32 :: 92 :: 10 :: 32 :: 35 :: rem) = []
    rw [blanks_sp _ _ rfl, blanks_join, blanks_sp _ _ rfl, blanks_hash]
    exact drop_all rem hrem
  have h2 : parseF n 0 ([32, 92, 10, 32, 35] ++ rem) = .ok [] [] := by rw [hm]; exact parse_none ht
  have hj := parse_join hs h2 hn hn
  rw [List.append_nil] at hj
  obtain ⟨m2, rfl⟩ : ∃ m2, n2 = m2 + 1 := ⟨n2 - 1, by omega⟩
  rw [← hj, parseF, parseF]
  refine parse_lines ?_
  have e : [10, 9, 35] ++ rem ++ [10, 32] ++ s ++ [10, 32, 92, 10, 32, 35] ++ rem = 10 :: 9 :: 35 :: (rem ++ 10 :: 32 :: (s ++ 10 :: ([32, 92, 10, 32, 35] ++ rem))) := by simp
  rw [e, lines_step (blanks_nl _), lines_step (r' := 32 :: (s ++ 10 :: ([32, 92, 10, 32, 35] ++ rem))) (by rw [blanks_sp _ _ rfl, blanks_hash]; exact drop_to_nl rem hrem _)]
  exact lines_of_blanks (blanks_sp _ _ rfl)
end Go.Proofs.Ytdfnkmiabmjolaa
namespace Go.Proofs.Ytdfnkmiabmjolaa
open Go.RowKit
set_option linter.unusedVariables false
set_option linter.unusedSimpArgs false

theorem RepE.one {w : World} {S : Nat → Prop} {sz : Nat} : ∀ (ds : List D) (cs : List Value), RepE w S sz ds cs → ∀ u ∈ cs, u.oneCell' = true
  | [], _, h => by intro u hu; cases h; cases hu
  | d :: ds, _, ⟨c1, c2, h1, _, h2, h3⟩ => by
    intro u hu
    rw [h1] at hu
    rcases List.mem_append.1 hu with hu | hu
    · exact Rep.one d c1 h2 u hu
    · exact RepE.one ds c2 h3 u hu
theorem addr_plus (b o j : Nat) : (⟨b, o, none⟩ : Addr).add j = ⟨b, o + j, none⟩ := by unfold Addr.add; split <;> simp_all

/-- What append comes to: its value owns both rows' elements. -/
theorem run_append_src {P : Program} {W : World} (S S2 : Nat → Prop) (t ty e : TypeId) (z : Value) (sz bytes : Nat) (ht : P.underlying t = some (.slice e))
    (hinfo : (P.info? e).map (fun i => (i.zero, i.size, i.bytes)) = some (some z, sz, bytes)) (hz : z.cells.size = sz) (hs0 : 0 < sz) (hb0 : 0 < bytes)
    (v : Value) (xs ds : List D) (A : Option Addr) (c : Nat) (hd : Rep W S2 (.sl e sz ds) [.slice A ds.length c])
    (hS : ∀ k, S2 k → k < W.heap.size → S k ∧ some k ≠ v.ownBlock) (HO : Own W S e sz v xs) (hl : (xs.length + ds.length) * bytes ≤ 140737488355328) :
    ∃ v1 w1, (Builtin.append_ #[t, t] ty #[v, .slice A ds.length c]).run P W = .ok v1 w1 ∧ Own w1 (fun k => S k ∨ W.heap.size ≤ k) e sz v1 (xs ++ ds) ∧ Chg (fun k => some k = v.ownBlock) W w1 ∧
      (v1.ownBlock = v.ownBlock ∨ ∃ b, v1.ownBlock = some b ∧ W.heap.size ≤ b) := by
  obtain ⟨i0, hi, hz0, hz1, hz2⟩ := info_parts hinfo
  obtain ⟨A', c', inner, h1, h2, h3, h4, h5⟩ := hd
  simp only [List.cons.injEq, Value.slice.injEq, and_true, true_and] at h1
  obtain ⟨rfl, rfl⟩ := h1
  have hil := RepE.length h5
  have hlt := fun k hk => Own.lt HO (k := k) hk
  have hlen : xs.length + ds.length ≤ 140737488355328 := Nat.le_trans (Nat.le_mul_of_pos_right _ hb0) hl
  have HO' := HO
  obtain ⟨cs, k1, k2, k3⟩ := HO
  rcases A with _ | ad
  · have hn : inner = [] := by
      cases inner with
      | nil => rfl
      | cons u l =>
        obtain ⟨b, o, e, _⟩ := h4 0 u rfl
        cases e
    subst hn
    have hds : ds = [] := by
      cases ds with
      | nil => rfl
      | cons d l => rw [List.length_nil, List.length_cons, Nat.add_mul] at hil; omega
    subst hds
    refine ⟨v, W, ?_, ?_, Chg.refl _ _, .inl rfl⟩
    · rcases k1.2 with ⟨rfl, _⟩ | ⟨g, cap, cur, rfl, _, _, hnc, _⟩
      · simp [Builtin.append_, run_underlying ht, sizeOf, typeInfo, hi, Builtin.lenOf, Builtin.firstCells]
      · simp [Builtin.append_, run_underlying ht, sizeOf, typeInfo, hi, Builtin.lenOf, Builtin.firstCells, hnc, storeCells]
    · rw [List.append_nil]
      exact HO'.mono (fun _ h _ => .inl h)
  · have hcells : ∀ j u, inner[j]? = some u → W.cell? (ad.add j) = some u := by
      intro j u hu
      obtain ⟨b, o, e, _, hc⟩ := h4 j u hu
      cases e
      rw [addr_plus]
      exact hc
    obtain ⟨v1, w1, hr, hown, hg, _, hat⟩ := run_append_own_at (P := P) W 0 t ty e i0 z sz bytes ht hi hz0 hz1 hz2 hz hs0 v xs.length cs k1 ad ds.length c inner hil hcells (RepE.one _ _ h5) (by simp only [maxLen]; omega) hl (Nat.zero_le _)
    have hat' : v1.ownBlock = v.ownBlock ∨ ∃ b, v1.ownBlock = some b ∧ W.heap.size ≤ b := by
      rcases hat with hat | hat
      · exact .inl hat
      · exact .inr ⟨_, hat, Nat.le_refl _⟩
    refine ⟨v1, w1, hr, ⟨cs ++ inner, by simpa using hown, fun k hk => ?_, ?_⟩, Chg.of_grown hg, hat'⟩
    · rcases hat' with hat | ⟨b, hb, hle⟩
      · exact .inl (k2 k (hat ▸ hk))
      · rw [hb] at hk
        cases hk
        exact .inr hle
    · have ne : ∀ k, k < W.heap.size → some k ≠ v.ownBlock → some k ≠ v1.ownBlock := by
        intro k hk hn
        rcases hat' with hat | ⟨b, hb, hle⟩
        · rw [hat]; exact hn
        · rw [hb]; intro e; cases e; omega
      have sm : ∀ {T : Nat → Prop}, (∀ k, T k → k < W.heap.size → some k ≠ v.ownBlock) → Same T W w1 := fun hT k hk hl => hg.block k hl (hT k hk hl)
      exact RepE.append (RepE.move (sm (fun k hk _ => hk.2)) (fun k hk hl => ⟨.inl hk.1, ne k hl hk.2⟩) _ _ _ k3) (RepE.move (sm (fun k hk hl => (hS k hk hl).2)) (fun k hk hl => ⟨.inl (hS k hk hl).1, ne k hl (hS k hk hl).2⟩) _ _ _ h5)

theorem own_append_src {P : Program} {W : World} {ops : Array Oper} {rest : List Oper} {o : Oper} {a : Act} {Q : Exit → Act → World → Prop} (S S2 : Nat → Prop) (hw : Region.wanted o (yielded ops a.tmps) = true) (s x : Operand) (t e : TypeId) (z : Value) (sz bytes : Nat)
    (ho : o.op = .call { callee := .builtin .append, args := #[s, x], argTypes := #[t, t] }) (ht : P.underlying t = some (.slice e))
    (hinfo : (P.info? e).map (fun i => (i.zero, i.size, i.bytes)) = some (some z, sz, bytes)) (hz : z.cells.size = sz) (hs0 : 0 < sz) (hb0 : 0 < bytes)
    (v : Value) (xs ds : List D) (A : Option Addr) (n c : Nat) (hn : n = ds.length) (hs : a.eval s = v) (hx : a.eval x = .slice A n c) (hd : Rep W S2 (.sl e sz ds) [.slice A n c])
    (hS : ∀ k, S2 k → k < W.heap.size → S k ∧ some k ≠ v.ownBlock) (HO : Own W S e sz v xs) (hl : (xs.length + ds.length) * bytes ≤ 140737488355328)
    (h : ∀ v1 w1, Own w1 (fun k => S k ∨ W.heap.size ≤ k) e sz v1 (xs ++ ds) → Chg (fun k => some k = v.ownBlock) W w1 → (v1.ownBlock = v.ownBlock ∨ ∃ b, v1.ownBlock = some b ∧ W.heap.size ≤ b) → wpList P ops Q rest (a.put o.dst v1) w1) :
    wpList P ops Q (o :: rest) a W := by
  subst hn
  obtain ⟨v1, w1, hr, h1, h2, h3⟩ := run_append_src (P := P) S S2 t o.type e z sz bytes ht hinfo hz hs0 hb0 v xs ds A c hd hS HO hl
  unfold wpList
  rw [if_pos hw]
  refine .inl ?_
  unfold Oper.wp execOp
  simp only [ho, resolve, invoke, builtin, Sem.run_bind, Sem.run_pure, Result.andThen_ok, List.map_toArray, List.map_cons, List.map_nil, hs, hx, hr]
  exact h v1 w1 h1 h2 h3
/-- A row that was just laid, with nothing in it. -/
theorem own_empty (W : World) (S : Nat → Prop) (e sz : Nat) : Own (W.alloc (.cells #[] e)) (fun k => S k ∨ k = W.heap.size) e sz (.slice (some ⟨W.heap.size, 0, none⟩) 0 0) [] := by
  refine ⟨[], ⟨by simp, .inr ⟨W.heap.size, 0, #[], rfl, Nat.zero_le _, heap_alloc_new W _, Nat.le_refl _, by simp [maxLen], by simp, by simp⟩⟩, fun k hk => ?_, rfl⟩
  simp [Value.ownBlock] at hk
  exact .inr hk.symm
end Go.Proofs.Ytdfnkmiabmjolaa
namespace Go.Proofs.Ytdfnkmiabmjolaa
set_option linter.unusedVariables false
set_option linter.unusedSimpArgs false

def wordC (c : UInt8) : Bool := !metaB c && !(c == 92) && !(c == 39) && !(c == 34) && !(c == 96) && !(c == 36)
def Stop (t : Bytes) : Prop := t = [] ∨ ∃ c t', t = c :: t' ∧ metaB c = true
theorem wordF_stop (n : Nat) (l : List Part) (t : Bytes) (h : Stop t) : wordF (n + 1) 0 false false l t = .ok l t := by
  rcases h with rfl | ⟨c, t', rfl, hc⟩
  · rw [wordF]
  · rw [wordF, if_pos (by simp [hc])]
theorem wordF_plain (t : Bytes) (ht : Stop t) : ∀ (w p : Bytes) (n : Nat), w.length + 1 ≤ n → w.all wordC = true → wordF n 0 false false [lit p false] (w ++ t) = .ok [lit (p ++ w) false] t
  | [], p, n, hn, _ => by
    obtain ⟨n', rfl⟩ : ∃ n', n = n' + 1 := ⟨n - 1, by simp at hn; omega⟩
    simp only [List.nil_append, List.append_nil]
    exact wordF_stop n' _ t ht
  | c :: w, p, n, hn, hw => by
    obtain ⟨n', rfl⟩ : ∃ n', n = n' + 1 := ⟨n - 1, by simp at hn; omega⟩
    simp only [List.all_cons, Bool.and_eq_true, wordC, Bool.not_eq_true'] at hw
    obtain ⟨⟨⟨⟨⟨⟨h1, h2⟩, h3⟩, h4⟩, h5⟩, h6⟩, hw⟩ := hw
    rw [List.cons_append, wordF]
    simp only [h1, h2, h3, h4, h5, h6, Bool.false_and, Bool.not_false, Bool.and_false, Bool.or_self, Bool.false_eq_true, if_false]
    have e : add [lit p false] (lit [c] false) = [lit (p ++ [c]) false] := by simp [add, lit, Part.kind, Part.quoted, Part.text, Part.op, Part.word]
    rw [e, wordF_plain t ht w (p ++ [c]) n' (by simp at hn; omega) (by simpa [wordC] using hw)]
    simp
theorem scan_plain (c : UInt8) (w t : Bytes) (hw : (c :: w).all wordC = true) (ht : Stop t) : scan (c :: (w ++ t)) = .ok [lit (c :: w) false] t := by
  simp only [List.all_cons, Bool.and_eq_true] at hw
  obtain ⟨hc, hw⟩ := hw
  simp only [Bool.and_eq_true, wordC, Bool.not_eq_true'] at hc
  obtain ⟨⟨⟨⟨⟨h1, h2⟩, h3⟩, h4⟩, h5⟩, h6⟩ := hc
  unfold scan fuel
  rw [show 4 * (c :: (w ++ t)).length + 3 = (4 * (c :: (w ++ t)).length + 2) + 1 from rfl, wordF]
  simp only [h1, h2, h3, h4, h5, h6, Bool.false_and, Bool.not_false, Bool.and_false, Bool.or_self, Bool.false_eq_true, if_false]
  have e : add [] (lit [c] false) = [lit [c] false] := rfl
  rw [e, wordF_plain t ht w [c] _ (by simp; omega) hw]
  rfl
/-- What stands there is a plain word. -/
theorem peek_plain (c : UInt8) (w t : Bytes) (hc : (c == 35) = false) (hw : (c :: w).all wordC = true) (ht : Stop t) : blanks (c :: (w ++ t)) = c :: (w ++ t) ∧ peek (c :: (w ++ t)) = (c :: w, t) ∧ sgn (c :: (w ++ t)) = [] := by
  have hs := scan_plain c w t hw ht
  simp only [List.all_cons, Bool.and_eq_true] at hw
  obtain ⟨hc1, _⟩ := hw
  simp only [Bool.and_eq_true, wordC, Bool.not_eq_true'] at hc1
  obtain ⟨⟨⟨⟨⟨h1, h2⟩, h3⟩, h4⟩, h5⟩, h6⟩ := hc1
  have hm : ∀ x : UInt8, x ∈ metas → (c == x) = false := by
    intro x hx
    by_cases hcx : c = x
    · subst hcx; simp [metaB, List.contains_iff_mem, hx] at h1
    · simpa using hcx
  have hb : blanks (c :: (w ++ t)) = c :: (w ++ t) := blanks_stop c _ (by rw [hm 32 (by simp [metas]), hm 9 (by simp [metas])]; rfl) hc (by rw [h2]; rfl)
  refine ⟨hb, ?_, ?_⟩
  · unfold peek
    rw [hb, hs]
    rfl
  · unfold sgn
    rw [hb]
    have k : ∀ x : UInt8, x ∈ metas → (x == c) = false := fun x hx => by rw [BEq.comm]; exact hm x hx
    simp only [metas, List.mem_cons, List.not_mem_nil, or_false, forall_eq_or_imp, forall_eq] at k
    obtain ⟨k1, k2, k3, k4, k5, k6, k7, k8, k9, k10⟩ := k
    simp [opL, signs, List.isPrefixOf, k3, k4, k5, k6, k7, k8, k9, k10]
/-- A script that is one command. -/
theorem parse_one {n : Nat} {X : Bytes} {c : Cmd} (hX : lines X = X) (hne : X ≠ []) (hb : ((peek X).1 == [33]) = false) (h : command n 1 X = .ok c []) : parseF (n + 2) 0 X = .ok [.mk [.mk false [c]] []] [] := by
  have hbl : blanks X = X := by rw [← hX]; exact lines_stop X
  have hp : pipeP (command n 1) X = .ok (.mk false [c]) [] := by
    rw [pipeP, hb]
    simp only [Bool.false_eq_true, if_false]
    rw [hbl, pipeF, h]
    rfl
  have hl : listF (pipeP (command n 1)) (X.length + 1) [] [] X = .ok (.mk [.mk false [c]] []) [] := by
    rw [listF, hp]
    rfl
  have hk : ∃ k, X.length = k + 1 := ⟨X.length - 1, by cases X with | nil => exact absurd rfl hne | cons a l => simp⟩
  obtain ⟨k, hk⟩ := hk
  have hls : lists (n + 1) 0 X = .ok [.mk [.mk false [c]] []] [] := by
    rw [lists_at X (by omega), hX, listsF]
    simp only [Bool.true_or, if_true]
    rw [show lstAt n 0 (X.length + 1) X = .ok (.mk [.mk false [c]] []) [] from hl, hk]
    rfl
  rw [parseF, parseG, hX, if_neg (by cases X with | nil => exact absurd rfl hne | cons a l => simp), hls]
  rfl
end Go.Proofs.Ytdfnkmiabmjolaa
namespace Go.Proofs.Ytdfnkmiabmjolaa
set_option linter.unusedVariables false
set_option linter.unusedSimpArgs false

def sepB : Nat → Bytes
  | 0 => [59]
  | 1 => [10]
  | 2 => [32, 38, 38, 32]
  | 3 => [124, 124]
  | _ => [124]
def tailB : List Nat → Bytes
  | [] => []
  | k :: l => sepB k ++ 97 :: tailB l
/-- The tail behind its blanks. -/
def btail : List Nat → Bytes
  | [] => []
  | k :: l => (if k = 2 then [38, 38, 32] else sepB k) ++ 97 :: tailB l
theorem sep_cases (k : Nat) (h : k < 5) : k = 0 ∨ k = 1 ∨ k = 2 ∨ k = 3 ∨ k = 4 := by omega
theorem blanks_tail (l : List Nat) (h : ∀ k ∈ l, k < 5) : blanks (tailB l) = btail l := by
  cases l with
  | nil => rfl
  | cons k l =>
    rcases sep_cases k (h k (by simp)) with rfl | rfl | rfl | rfl | rfl
    · exact blanks_stop 59 _ rfl rfl rfl
    · exact blanks_stop 10 _ rfl rfl rfl
    · show blanks (32 :: 38 :: 38 :: 32 :: 97 :: tailB l) = _
      rw [blanks_sp _ _ rfl]
      exact blanks_stop 38 _ rfl rfl rfl
    · exact blanks_stop 124 _ rfl rfl rfl
    · exact blanks_stop 124 _ rfl rfl rfl
theorem blanks_btail (l : List Nat) (h : ∀ k ∈ l, k < 5) : blanks (btail l) = btail l := by rw [← blanks_tail l h, blanks_idem]
theorem stop_tail (l : List Nat) (h : ∀ k ∈ l, k < 5) : Stop (tailB l) := by
  cases l with
  | nil => exact .inl rfl
  | cons k l =>
    rcases sep_cases k (h k (by simp)) with rfl | rfl | rfl | rfl | rfl <;> exact .inr ⟨_, _, rfl, rfl⟩
def sgnT : List Nat → Bytes
  | [] => []
  | k :: _ => if k = 2 then [38, 38] else sepB k
theorem sgn_btail (l : List Nat) (h : ∀ k ∈ l, k < 5) : sgn (btail l) = sgnT l := by
  unfold sgn
  rw [blanks_btail l h]
  cases l with
  | nil => rfl
  | cons k l =>
    rcases sep_cases k (h k (by simp)) with rfl | rfl | rfl | rfl | rfl <;> rfl
theorem sgn_tail (l : List Nat) (h : ∀ k ∈ l, k < 5) : sgn (tailB l) = sgnT l := by rw [← sgn_idem2, blanks_tail l h, sgn_btail l h]
def wdA : List Part := [lit [97] false]
def cmdA : Cmd := .mk 1 [] [] [wdA] [] [] [] [] []
theorem scan_a (l : List Nat) (h : ∀ k ∈ l, k < 5) : scan (97 :: tailB l) = .ok wdA (tailB l) := scan_plain 97 [] _ rfl (stop_tail l h)
theorem peek_a (l : List Nat) (h : ∀ k ∈ l, k < 5) : blanks (97 :: tailB l) = 97 :: tailB l ∧ peek (97 :: tailB l) = ([97], tailB l) ∧ sgn (97 :: tailB l) = [] := peek_plain 97 [] _ rfl rfl (stop_tail l h)
theorem word_a (pe : Bytes → Int) (l : List Nat) (h : ∀ k ∈ l, k < 5) : wordP pe (97 :: tailB l) = .ok wdA (tailB l) := by
  unfold wordP
  rw [(peek_a l h).1, scan_a l h]
  rfl
theorem redir_a (wd : Bytes → Rs (List Part)) (l : List Nat) (h : ∀ k ∈ l, k < 5) : redirP wd (97 :: tailB l) = .ok none (97 :: tailB l) := by
  have hf : fdP (97 :: tailB l) = (-1, 97 :: tailB l) := by cases tailB l <;> rfl
  unfold redirP
  rw [(peek_a l h).1, hf]
  dsimp only
  rw [(peek_a l h).2.2]
  rfl
theorem fd_btail (l : List Nat) (h : ∀ k ∈ l, k < 5) : fdP (btail l) = (-1, btail l) := by
  cases l with
  | nil => rfl
  | cons k l =>
    rcases sep_cases k (h k (by simp)) with rfl | rfl | rfl | rfl | rfl <;> rfl
theorem redir_tail (wd : Bytes → Rs (List Part)) (l : List Nat) (h : ∀ k ∈ l, k < 5) : redirP wd (tailB l) = .ok none (btail l) := by
  unfold redirP
  rw [blanks_tail l h, fd_btail l h]
  dsimp only
  rw [sgn_btail l h]
  cases l with
  | nil => rfl
  | cons k l =>
    rcases sep_cases k (h k (by simp)) with rfl | rfl | rfl | rfl | rfl <;> rfl
theorem simple_a (wd : Bytes → Rs (List Part)) (fn : Bytes → Bytes → Rs Cmd) (n : Nat) (l : List Nat) (h : ∀ k ∈ l, k < 5) (hwd : wd (97 :: tailB l) = .ok wdA (tailB l)) :
    simpleF wd fn (n + 2) [] [] [] (97 :: tailB l) = .ok cmdA (btail l) := by
  have hh : ((tailB l).head? == some 40) = false := by
    cases l with
    | nil => rfl
    | cons k l => rcases sep_cases k (h k (by simp)) with rfl | rfl | rfl | rfl | rfl <;> rfl
  have h1 : simpleF wd fn (n + 1) [] [wdA] [] (tailB l) = .ok cmdA (btail l) := by
    rw [simpleF, redir_tail wd l h]
    simp only [Rs.bind, blanks_btail l h, sgn_btail l h]
    cases l with
    | nil => rfl
    | cons k l => rcases sep_cases k (h k (by simp)) with rfl | rfl | rfl | rfl | rfl <;> rfl
  rw [simpleF, redir_a wd l h]
  simp only [Rs.bind, (peek_a l h).1, (peek_a l h).2.1, (peek_a l h).2.2, hwd, hh]
  exact h1
theorem comp_a (wd : Bytes → Rs (List Part)) (ls : Bytes → Rs (List Lst)) (br : Bytes → Rs Cmd) (l : List Nat) (h : ∀ k ∈ l, k < 5) : compoundP wd ls br (97 :: tailB l) = .ok none (97 :: tailB l) := by
  unfold compoundP
  rw [(peek_a l h).2.2, (peek_a l h).1, (peek_a l h).2.1, (peek_a l h).1]
  rfl
theorem command_a (n d : Nat) (l : List Nat) (h : ∀ k ∈ l, k < 5) : command (n + 2) d (97 :: tailB l) = .ok cmdA (btail l) := by
  rw [command, compound, comp_a _ _ _ l h]
  simp only [Rs.bind]
  rw [List.length_cons]
  refine simple_a _ _ _ l h ?_
  rw [wordS]
  exact word_a _ l h
theorem lines_a (l : List Nat) (h : ∀ k ∈ l, k < 5) : lines (97 :: tailB l) = 97 :: tailB l := lines_fix (peek_a l h).1 (fun c t e => by simp only [List.cons.injEq] at e; rw [← e.1]; decide)
theorem over_a (l : List Nat) (h : ∀ k ∈ l, k < 5) : over (97 :: tailB l) = false := by
  unfold over
  rw [(peek_a l h).1, (peek_a l h).2.1, (peek_a l h).2.2]
  rfl
def isA (cmd : Bytes → Rs Cmd) : Prop := ∀ l : List Nat, (∀ k ∈ l, k < 5) → cmd (97 :: tailB l) = .ok cmdA (btail l)
theorem tail_cons_len (k : Nat) (l : List Nat) (h : k < 5) : (tailB l).length + 2 ≤ (tailB (k :: l)).length := by
  rcases sep_cases k h with rfl | rfl | rfl | rfl | rfl <;> simp [tailB, sepB] <;> omega
theorem pipeF_a {cmd : Bytes → Rs Cmd} (hc : isA cmd) (neg : Bool) : ∀ (l : List Nat), (∀ k ∈ l, k < 5) → ∀ (n : Nat) (cs : List Cmd), (tailB l).length < n →
    ∃ cs' l', pipeF cmd n neg cs (97 :: tailB l) = .ok (.mk neg (cs ++ cs')) (btail l') ∧ (∀ k ∈ l', k < 5) ∧ l'.head? ≠ some 4 ∧ cs'.length + l'.length = l.length + 1 ∧ l'.countP (· < 4) = l.countP (· < 4) ∧ l'.countP (· < 2) = l.countP (· < 2) ∧ (tailB l').length ≤ (tailB l).length ∧ 0 < cs'.length := by
  intro l
  induction l with
  | nil =>
    intro h n cs hn
    obtain ⟨m, rfl⟩ : ∃ m, n = m + 1 := ⟨n - 1, by omega⟩
    refine ⟨[cmdA], [], ?_, h, by simp, rfl, rfl, rfl, Nat.le_refl _, by simp⟩
    rw [pipeF, hc [] h]
    rfl
  | cons k l ih =>
    intro h n cs hn
    have h' : ∀ j ∈ l, j < 5 := fun j hj => h j (by simp [hj])
    obtain ⟨m, rfl⟩ : ∃ m, n = m + 1 := ⟨n - 1, by omega⟩
    have hk := h k (by simp)
    rw [pipeF, hc _ h]
    simp only [Rs.bind, sgn_btail _ h, blanks_btail _ h]
    by_cases h4 : k = 4
    · subst h4
      have hlen := tail_cons_len 4 l hk
      obtain ⟨cs', l', e1, e2, e3, e4, e5, e6, e7, _⟩ := ih h' m (cs ++ [cmdA]) (by omega)
      refine ⟨cmdA :: cs', l', ?_, e2, e3, by simp; omega, by simpa using e5, by simpa using e6, by omega, by simp⟩
      rw [if_pos (by rfl)]
      have hb : (btail (4 :: l)).drop 1 = 97 :: tailB l := rfl
      rw [hb, lines_a l h', e1]
      simp
    · refine ⟨[cmdA], k :: l, ?_, h, by simpa using h4, by simp; omega, rfl, rfl, Nat.le_refl _, by simp⟩
      rw [if_neg]
      rcases sep_cases k hk with rfl | rfl | rfl | rfl | rfl
      · exact Bool.false_ne_true
      · exact Bool.false_ne_true
      · exact Bool.false_ne_true
      · exact Bool.false_ne_true
      · exact absurd rfl h4
def isP (pipe : Bytes → Rs Pip) : Prop := ∀ l : List Nat, (∀ k ∈ l, k < 5) → ∃ cs l', pipe (97 :: tailB l) = .ok (.mk false cs) (btail l') ∧ (∀ k ∈ l', k < 5) ∧ l'.head? ≠ some 4 ∧ cs.length + l'.length = l.length + 1 ∧
  l'.countP (· < 4) = l.countP (· < 4) ∧ l'.countP (· < 2) = l.countP (· < 2) ∧ (tailB l').length ≤ (tailB l).length ∧ 0 < cs.length
theorem pipeP_a {cmd : Bytes → Rs Cmd} (hc : isA cmd) : isP (pipeP cmd) := by
  intro l h
  unfold pipeP
  rw [(peek_a l h).2.1, if_neg (by simp), (peek_a l h).1]
  have := pipeF_a hc false l h ((97 :: tailB l).length + 1) [] (by simp; omega)
  simpa using this
def Pip.size : Pip → Nat | .mk _ cs => cs.length
def cmdsOf (ps : List Pip) : Nat := (ps.map Pip.size).sum
theorem cmdsOf_append (a b : List Pip) : cmdsOf (a ++ b) = cmdsOf a + cmdsOf b := by simp [cmdsOf]
theorem listF_a {pipe : Bytes → Rs Pip} (hp : isP pipe) : ∀ (m : Nat) (l : List Nat), l.length ≤ m → (∀ k ∈ l, k < 5) → ∀ (n : Nat) (ps : List Pip) (os : List Bytes), (tailB l).length < n →
    ∃ ps' os' l', listF pipe n ps os (97 :: tailB l) = .ok (.mk (ps ++ ps') (os ++ os')) (btail l') ∧ (∀ k ∈ l', k < 5) ∧ (∀ k, l'.head? = some k → k < 2) ∧ cmdsOf ps' + l'.length = l.length + 1 ∧ ps'.length = os'.length + 1 ∧
      ps'.length + l'.countP (· < 4) = l.countP (· < 4) + 1 ∧ l'.countP (· < 2) = l.countP (· < 2) ∧ (tailB l').length ≤ (tailB l).length := by
  intro m
  induction m with
  | zero =>
    intro l hm h n ps os hn
    obtain rfl := List.eq_nil_of_length_eq_zero (Nat.le_zero.1 hm)
    obtain ⟨j, rfl⟩ : ∃ j, n = j + 1 := ⟨n - 1, by omega⟩
    obtain ⟨cs, l', e1, e2, e3, e4, e5, e6, e7, hcs⟩ := hp [] h
    have hl' : l' = [] := by
      cases l' with
      | nil => rfl
      | cons k l' =>
        exfalso
        have := tail_cons_len k l' (e2 k (by simp))
        have h0 : (tailB []).length = 0 := rfl
        omega
    subst hl'
    refine ⟨[.mk false cs], [], [], ?_, by simp, by simp, ?_, rfl, rfl, rfl, Nat.le_refl _⟩
    · rw [listF, e1, List.append_nil]
      rfl
    · simp [cmdsOf, Pip.size]; simpa using e4
  | succ m ih =>
    intro l hm h n ps os hn
    obtain ⟨j, rfl⟩ : ∃ j, n = j + 1 := ⟨n - 1, by omega⟩
    obtain ⟨cs, l1, e1, e2, e3, e4, e5, e6, e7, hcs⟩ := hp l h
    rw [listF, e1]
    simp only [Rs.bind, sgn_btail _ e2, blanks_btail _ e2]
    have hl1 : l1.length ≤ l.length + 1 := by omega
    have last : ∀ {l1 : List Nat}, (∀ k, l1.head? = some k → k < 2) → (∀ k ∈ l1, k < 5) → cs.length + l1.length = l.length + 1 → l1.countP (· < 4) = l.countP (· < 4) → l1.countP (· < 2) = l.countP (· < 2) → (tailB l1).length ≤ (tailB l).length →
        ∃ ps' os' l', (.ok (.mk (ps ++ [.mk false cs]) os) (btail l1) : Rs Lst) = .ok (.mk (ps ++ ps') (os ++ os')) (btail l') ∧ (∀ k ∈ l', k < 5) ∧ (∀ k, l'.head? = some k → k < 2) ∧ cmdsOf ps' + l'.length = l.length + 1 ∧ ps'.length = os'.length + 1 ∧
          ps'.length + l'.countP (· < 4) = l.countP (· < 4) + 1 ∧ l'.countP (· < 2) = l.countP (· < 2) ∧ (tailB l').length ≤ (tailB l).length := by
      intro l1 a1 a2 a3 a4 a5 a6
      exact ⟨[.mk false cs], [], l1, by simp, a2, a1, by simp [cmdsOf, Pip.size]; omega, rfl, by simp; omega, a5, a6⟩
    cases l1 with
    | nil => exact last (by simp) e2 e4 e5 e6 e7
    | cons k l2 =>
      have hk := e2 k (by simp)
      have h2 : ∀ j ∈ l2, j < 5 := fun j hj => e2 j (by simp [hj])
      have hlen := tail_cons_len k l2 hk
      -- a sign between two pipes: on
      have on : (k = 2 ∨ k = 3) → ∀ o : Bytes, ∃ ps' os' l', listF pipe j (ps ++ [.mk false cs]) (os ++ [o]) (97 :: tailB l2) = .ok (.mk (ps ++ ps') (os ++ os')) (btail l') ∧ (∀ k ∈ l', k < 5) ∧ (∀ k, l'.head? = some k → k < 2) ∧ cmdsOf ps' + l'.length = l.length + 1 ∧ ps'.length = os'.length + 1 ∧
          ps'.length + l'.countP (· < 4) = l.countP (· < 4) + 1 ∧ l'.countP (· < 2) = l.countP (· < 2) ∧ (tailB l').length ≤ (tailB l).length := by
        intro hk23 o
        simp only [List.length_cons] at e4
        obtain ⟨ps', os', l', f1, f2, f3, f4, f5, f6, f7, f8⟩ := ih l2 (by omega) h2 j (ps ++ [.mk false cs]) (os ++ [o]) (by omega)
        refine ⟨.mk false cs :: ps', o :: os', l', by rw [f1]; simp, f2, f3, ?_, by simp [f5], ?_, ?_, by omega⟩
        · rw [show (Pip.mk false cs :: ps') = [.mk false cs] ++ ps' from rfl, cmdsOf_append]
          simp only [cmdsOf, List.map_cons, List.map_nil, List.sum_cons, List.sum_nil, Pip.size, Nat.add_zero] at f4 ⊢
          omega
        · rcases hk23 with rfl | rfl <;> simp at e5 ⊢ <;> omega
        · rcases hk23 with rfl | rfl <;> simp at e6 ⊢ <;> omega
      rcases sep_cases k hk with rfl | rfl | rfl | rfl | rfl
      · exact last (by simp) e2 e4 e5 e6 e7
      · exact last (by simp) e2 e4 e5 e6 e7
      · have := on (.inl rfl) [38, 38]
        have hb : lines ((btail (2 :: l2)).drop (sgnT (2 :: l2)).length) = 97 :: tailB l2 := by
          show lines (32 :: 97 :: tailB l2) = _
          rw [lines_of_blanks (blanks_sp _ _ rfl), lines_a _ h2]
        rw [hb, if_pos (by rfl)]
        exact this
      · have := on (.inr rfl) [124, 124]
        have hb : lines ((btail (3 :: l2)).drop (sgnT (3 :: l2)).length) = 97 :: tailB l2 := by
          show lines (97 :: tailB l2) = _
          rw [lines_a _ h2]
        rw [hb, if_pos (by rfl)]
        exact this
      · exact absurd rfl e3
def Lst.size : Lst → Nat | .mk ps _ => ps.length
def Lst.osize : Lst → Nat | .mk _ os => os.length
def Lst.csize : Lst → Nat | .mk ps _ => cmdsOf ps
def Lst.pipes : Lst → List Pip | .mk ps _ => ps
def isL (K : Nat) (list : Bytes → Rs Lst) : Prop := ∀ l : List Nat, (tailB l).length < K → (∀ k ∈ l, k < 5) → ∃ x l', list (97 :: tailB l) = .ok x (btail l') ∧ (∀ k ∈ l', k < 5) ∧ (∀ k, l'.head? = some k → k < 2) ∧ x.csize + l'.length = l.length + 1 ∧ x.size = x.osize + 1 ∧
  x.size + l'.countP (· < 4) = l.countP (· < 4) + 1 ∧ l'.countP (· < 2) = l.countP (· < 2) ∧ (tailB l').length ≤ (tailB l).length
theorem lists_a {K : Nat} {list : Bytes → Rs Lst} (hl : isL K list) : ∀ (m : Nat) (l : List Nat), (tailB l).length ≤ m → (tailB l).length < K → (∀ k ∈ l, k < 5) → ∀ (n : Nat) (first : Bool) (ls : List Lst), (tailB l).length + 2 ≤ n →
    ∃ ls', listsF list n first ls (97 :: tailB l) = .ok (ls ++ ls') [] ∧ ls'.length = l.countP (· < 2) + 1 ∧ (ls'.map Lst.size).sum = l.countP (· < 4) + 1 ∧ (ls'.map Lst.csize).sum = l.length + 1 ∧ ∀ x ∈ ls', x.size = x.osize + 1 := by
  intro m
  induction m with
  | zero =>
    intro l hm hK h n first ls hn
    have hl0 : l = [] := by
      cases l with
      | nil => rfl
      | cons k l => have := tail_cons_len k l (h k (by simp)); omega
    subst hl0
    obtain ⟨x, l', e1, e2, e3, e4, e5, e6, e7, e8⟩ := hl [] hK h
    have hl' : l' = [] := by
      cases l' with
      | nil => rfl
      | cons k l' => have := tail_cons_len k l' (e2 k (by simp)); have h0 : (tailB []).length = 0 := rfl; omega
    subst hl'
    obtain ⟨j, rfl⟩ : ∃ j, n = j + 2 := ⟨n - 2, by simp [tailB] at hn; omega⟩
    refine ⟨[x], ?_, rfl, by simpa using e6, by simpa using e4, by simpa using e5⟩
    rw [listsF, over_a [] h, (peek_a [] h).1]
    simp only [Bool.not_false, Bool.or_true, if_true, ite_self]
    rw [e1]
    rfl
  | succ m ih =>
    intro l hm hK h n first ls hn
    obtain ⟨x, l', e1, e2, e3, e4, e5, e6, e7, e8⟩ := hl l hK h
    obtain ⟨j, rfl⟩ : ∃ j, n = j + 1 := ⟨n - 1, by omega⟩
    rw [listsF, over_a l h, (peek_a l h).1]
    simp only [Bool.not_false, Bool.or_true, if_true, ite_self]
    rw [e1]
    simp only [Rs.bind, sgn_btail _ e2, blanks_btail _ e2]
    cases l' with
    | nil =>
      refine ⟨[x], ?_, by rw [← e7]; rfl, by rw [← e6]; simp, by simpa using e4, by simpa using e5⟩
      obtain ⟨i, rfl⟩ : ∃ i, j = i + 1 := ⟨j - 1, by omega⟩
      rfl
    | cons k l2 =>
      have hk := e3 k rfl
      have h2 : ∀ j ∈ l2, j < 5 := fun j hj => e2 j (by simp [hj])
      have hlen := tail_cons_len k l2 (by omega)
      obtain ⟨ls', f1, f2, f3, f4, f5⟩ := ih l2 (by omega) (by omega) h2 j false (ls ++ [x]) (by omega)
      have fin : ∃ ls', listsF list j false (ls ++ [x]) (97 :: tailB l2) = .ok (ls ++ ls') [] ∧ ls'.length = l.countP (· < 2) + 1 ∧ (ls'.map Lst.size).sum = l.countP (· < 4) + 1 ∧ (ls'.map Lst.csize).sum = l.length + 1 ∧ ∀ x ∈ ls', x.size = x.osize + 1 := by
        simp only [List.length_cons] at e4
        have k4 : k < 4 := by omega
        rw [List.countP_cons] at e6 e7
        simp only [k4, hk, decide_true, if_true] at e6 e7
        refine ⟨x :: ls', by rw [f1]; simp, by simp; omega, by simp; omega, by simp; omega, ?_⟩
        intro y hy
        rcases List.mem_cons.1 hy with rfl | hy
        · exact e5
        · exact f5 y hy
      have hk2 : k = 0 ∨ k = 1 := by omega
      rcases hk2 with rfl | rfl
      · rw [if_pos (by rfl)]
        have hb : lines ((btail (0 :: l2)).drop 1) = 97 :: tailB l2 := lines_a _ h2
        rw [hb]
        exact fin
      · rw [show (sgnT (1 :: l2) == [59]) = false from rfl, if_neg Bool.false_ne_true, if_pos (by rfl)]
        have hb : lines (btail (1 :: l2)) = 97 :: tailB l2 := by
          show lines (10 :: 97 :: tailB l2) = _
          rw [lines_step (blanks_nl _), lines_a _ h2]
        rw [hb]
        exact fin
theorem parse_a (n : Nat) (l : List Nat) (h : ∀ k ∈ l, k < 5) : ∃ ls, parseF (n + 4) 0 (97 :: tailB l) = .ok ls [] ∧ ls.length = l.countP (· < 2) + 1 ∧ (ls.map Lst.size).sum = l.countP (· < 4) + 1 ∧ (ls.map Lst.csize).sum = l.length + 1 ∧ ∀ x ∈ ls, x.size = x.osize + 1 := by
  have hL : isL ((97 :: tailB l).length + 1) (lstAt (n + 2) 0 ((97 :: tailB l).length + 1)) := by
    intro l1 h1 h2
    obtain ⟨ps, os, l', e1, e2, e3, e4, e5, e6, e7, e8⟩ := listF_a (pipeP_a (fun l h => command_a n 1 l h)) l1.length l1 (Nat.le_refl _) h2 ((97 :: tailB l).length + 1) [] [] h1
    exact ⟨.mk ps os, l', e1, e2, e3, e4, e5, e6, e7, e8⟩
  obtain ⟨ls, e1, e2⟩ := lists_a hL _ l (Nat.le_refl _) (by simp; omega) h ((97 :: tailB l).length + 1) true [] (by simp)
  refine ⟨ls, ?_, e2⟩
  rw [parseF, parseG, lines_a l h, lists_at _ (by omega), lines_a l h, e1]
  rfl
end Go.Proofs.Ytdfnkmiabmjolaa
namespace Go.Proofs.Ytdfnkmiabmjolaa
set_option linter.unusedVariables false
set_option linter.unusedSimpArgs false

/-- A script whose one command fails. -/
theorem parse_one_err {n : Nat} {X : Bytes} {l : Nat} {c : Int} (hX : lines X = X) (hne : X ≠ []) (hb : ((peek X).1 == [33]) = false) (h : command n 1 X = .err l c) : parseF (n + 2) 0 X = .err l c := by
  have hbl : blanks X = X := by rw [← hX]; exact lines_stop X
  have hp : pipeP (command n 1) X = .err l c := by
    rw [pipeP, hb]
    simp only [Bool.false_eq_true, if_false]
    rw [hbl, pipeF, h]
    rfl
  have hl : listF (pipeP (command n 1)) (X.length + 1) [] [] X = .err l c := by
    rw [listF, hp]
    rfl
  have hls : lists (n + 1) 0 X = .err l c := by
    rw [lists_at X (by omega), hX, listsF]
    simp only [Bool.true_or, if_true]
    rw [show lstAt n 0 (X.length + 1) X = .err l c from hl]
    rfl
  rw [parseF, parseG, hX, if_neg (by cases X with | nil => exact absurd rfl hne | cons a l => simp), hls]
  rfl
/-- What is behind a script's lists, when a newline and more stand there. -/
theorem lines_more {m : Nat} {s : Bytes} {a : List Lst} (h : lists m 0 (lines s) = .ok a []) (y : Bytes) : lines (s ++ 10 :: y) = lines s ++ 10 :: y := by
  have ho : ¬ Out (lines s) := by
    obtain ⟨_, _, _, _, ho⟩ := lists_ok h
    rwa [lines_idem] at ho
  rcases lines_A (x := 10 :: y) (.inr ⟨y, rfl⟩) s with h | h | h
  · simp at h
  · exact absurd h ho
  · exact h
theorem body_more {m n' d : Nat} {s y q : Bytes} {a : List Lst} (h : lists m 0 (lines s) = .ok a []) (hn : m ≤ n') (hq : lines q = lines (s ++ 10 :: y)) (hlen : s.length + y.length + 1 ≤ q.length) (hy : lines y = y) (ho : over y = true) :
    (∃ l, lists n' d q = .err l 63) ∨ lists n' d q = .ok a y := by
  have hl := lines_le s
  have hq2 : lines q = lines (lines s) ++ 10 :: y := by rw [hq, lines_more h, lines_idem]
  rcases lists_more h n' d hn True (fun _ => trivial) q y hq2 (by simp; omega) with ⟨_, l, h1⟩ | ⟨k1, k, k', rfl, _, _, hk, h1⟩
  · rw [Nat.zero_add] at h1; exact .inl ⟨l, h1⟩
  · rw [Nat.zero_add] at h1
    right
    rw [h1, hy, listsF_end (by omega) _ ho]
    rw [← hy, lines_stop]
theorem parse_body {n : Nat} {s : Bytes} {a : List Lst} {r : Bytes} (h : parseF n 0 s = .ok a r) (ha : a ≠ []) : ∃ m, n = m + 1 ∧ lists m 0 (lines s) = .ok a [] := by
  obtain ⟨m, hm, _, h1⟩ := parse_ok h
  rcases h1 with ⟨_, h1⟩ | ⟨_, h1⟩
  · exact absurd h1 ha
  · exact ⟨m, hm, h1⟩
/-- A plain word stands there. -/
theorem key_plain (c : UInt8) (w t : Bytes) (hc : (c == 35) = false) (hw : (c :: w).all wordC = true) (ht : Stop t) : lines (c :: (w ++ t)) = c :: (w ++ t) := by
  refine lines_fix (peek_plain c w t hc hw ht).1 (fun d u e => ?_)
  simp only [List.cons.injEq] at e
  rw [← e.1]
  rintro rfl
  simp [wordC, metaB, metas] at hw
theorem must_plain (c : UInt8) (w t : Bytes) (hc : (c == 35) = false) (hw : (c :: w).all wordC = true) (ht : Stop t) : mustP (c :: w) (c :: (w ++ t)) = .ok () t := by
  unfold mustP
  rw [(peek_plain c w t hc hw ht).2.1]
  simp
theorem over_plain (c : UInt8) (w t : Bytes) (hc : (c == 35) = false) (hw : (c :: w).all wordC = true) (ht : Stop t) (h : closing (c :: w) = true) : over (c :: (w ++ t)) = true := by
  unfold over
  rw [(peek_plain c w t hc hw ht).2.1, h]
  simp
theorem redirs_nil (wd : Bytes → Rs (List Part)) (n : Nat) : redirsF wd (n + 1) [] [] = .ok [] [] := rfl
theorem stop_nl (t : Bytes) : Stop (10 :: t) := .inr ⟨_, _, rfl, rfl⟩
theorem stop_sp (t : Bytes) : Stop (32 :: t) := .inr ⟨_, _, rfl, rfl⟩
/-- A command that is a compound one, and nothing behind it. -/
theorem command_comp {n d : Nat} {X : Bytes} {c : Cmd} (h : compound n d X = .ok (some c) []) : command (n + 1) d X = .ok (withRedirs c []) [] := by
  rw [command, h]
  rfl
theorem command_err {n d : Nat} {X : Bytes} {l : Nat} {e : Int} (h : compound n d X = .err l e) : command (n + 1) d X = .err l e := by
  rw [command, h]
  rfl
theorem withRedirs_nil (c : Cmd) : withRedirs c [] = c := by
  obtain ⟨k, n, xs, ws, co, bo, ot, ca, rs⟩ := c
  simp [withRedirs]
/-- Lists in the midst, read by the kernel, elsewhere. -/
theorem lists_there {n n' d : Nat} {r r' x : Bytes} {v : List Lst} (h : lists n 0 r = .ok v r') (hn : n ≤ n') (hx : Ends x) (ho : ¬ Out r') : lists n' d (r ++ x) = .ok v (r' ++ x) ∨ ∃ l, lists n' d (r ++ x) = .err l 63 := by
  rcases (sim_all n).lists n' 0 d x True hn hx (fun _ => trivial) r v r' h with ⟨_, h1⟩ | h1 | ⟨_, l, h1⟩
  · exact absurd h1 ho
  · rw [Nat.zero_add] at h1; exact .inl h1
  · rw [Nat.zero_add] at h1; exact .inr ⟨l, h1⟩

section
variable {m n : Nat} {s : Bytes} {a : List Lst}
/-- {, a newline, the script, a newline, }: so deep. -/
theorem comp_braces (h : lists m 0 (lines s) = .ok a []) (hn : m ≤ n) (d : Nat) : (∃ l, compound (n + 1) d (123 :: 10 :: (s ++ [10, 125])) = .err l 63) ∨ compound (n + 1) d (123 :: 10 :: (s ++ [10, 125])) = .ok (some (.mk 2 [] [] [] [] a [] [] [])) [] := by
  obtain ⟨p1, p2, p3⟩ := peek_plain 123 [] (10 :: (s ++ [10, 125])) rfl rfl (stop_nl _)
  simp only [List.nil_append] at p1 p2 p3
  have hb := body_more (d := d) (q := 10 :: (s ++ [10, 125])) (y := [125]) h hn (lines_step (blanks_nl _)) (by simp) (by kernel_rfl) (by kernel_rfl)
  have e : ∀ X, compoundP (wordS n d) (lists n d) (branchF (fun d' => lists n d') X d) (123 :: 10 :: (s ++ [10, 125])) = (lists n d (10 :: (s ++ [10, 125]))).bind fun l r1 => (mustP [125] r1).bind fun _ r2 => .ok (some (.mk 2 [] [] [] [] l [] [] [])) r2 := by
    intro X
    unfold compoundP
    rw [p3, p1, p2]
    rfl
  rw [compound, e]
  rcases hb with ⟨l, hb⟩ | hb
  · left; exact ⟨l, by rw [hb]; rfl⟩
  · right
    have q : mustP [125] [125] = .ok () [] := by kernel_rfl
    rw [hb]
    simp only [Rs.bind]
    rw [q]
theorem group0 (h : lists m 0 (lines s) = .ok a []) (hn : m ≤ n) : (∃ l, parseF (n + 4) 0 (123 :: 10 :: (s ++ [10, 125])) = .err l 63) ∨ parseF (n + 4) 0 (123 :: 10 :: (s ++ [10, 125])) = .ok [.mk [.mk false [.mk 2 [] [] [] [] a [] [] []]] []] [] := by
  have hX := key_plain 123 [] (10 :: (s ++ [10, 125])) rfl rfl (stop_nl _)
  have hp := (peek_plain 123 [] (10 :: (s ++ [10, 125])) rfl rfl (stop_nl _)).2.1
  simp only [List.nil_append] at hX hp
  rcases comp_braces h hn 1 with ⟨l, h1⟩ | h1
  · exact .inl ⟨l, parse_one_err hX (by simp) (by rw [hp]; rfl) (command_err h1)⟩
  · exact .inr (parse_one hX (by simp) (by rw [hp]; rfl) (by rw [command_comp h1, withRedirs_nil]))
/-- (, the script, a newline, ). -/
theorem group1 (h : lists m 0 (lines s) = .ok a []) (hn : m ≤ n) : (∃ l, parseF (n + 4) 0 (40 :: (s ++ [10, 41])) = .err l 63) ∨ parseF (n + 4) 0 (40 :: (s ++ [10, 41])) = .ok [.mk [.mk false [.mk 3 [] [] [] [] a [] [] []]] []] [] := by
  have hbl : blanks (40 :: (s ++ [10, 41])) = 40 :: (s ++ [10, 41]) := blanks_stop 40 _ rfl rfl rfl
  have hX : lines (40 :: (s ++ [10, 41])) = 40 :: (s ++ [10, 41]) := lines_fix hbl (fun c t e => by simp only [List.cons.injEq] at e; rw [← e.1]; decide)
  have hs : sgn (40 :: (s ++ [10, 41])) = [40] := by unfold sgn; rw [hbl]; rfl
  have hp : peek (40 :: (s ++ [10, 41])) = ([], []) := by unfold peek; rw [hbl, scan_meta _ _ rfl]
  have hb := body_more (d := 1) (q := s ++ [10, 41]) (y := [41]) h hn rfl (by simp) (by kernel_rfl) (by kernel_rfl)
  have e : ∀ X, compoundP (wordS n 1) (lists n 1) (branchF (fun d' => lists n d') X 1) (40 :: (s ++ [10, 41])) = (lists n 1 (s ++ [10, 41])).bind fun l r1 => (wantP [41] r1).bind fun _ r2 => .ok (some (.mk 3 [] [] [] [] l [] [] [])) r2 := by
    intro X
    unfold compoundP
    rw [hs, hbl]
    rfl
  have q : wantP [41] [41] = .ok () [] := by kernel_rfl
  rcases hb with ⟨l, hb⟩ | hb
  · exact .inl ⟨l, parse_one_err hX (by simp) (by rw [hp]; rfl) (command_err (by rw [compound, e, hb]; rfl))⟩
  · exact .inr (parse_one hX (by simp) (by rw [hp]; rfl) (by rw [command_comp (c := .mk 3 [] [] [] [] a [] [] []) (by rw [compound, e, hb]; simp only [Rs.bind]; rw [q]), withRedirs_nil]))
theorem lists_x : lists 12 0 [32, 120, 10, 100, 111, 110, 101] = .ok [.mk [.mk false [.mk 1 [] [] [[.mk 1 false [120] [] []]] [] [] [] [] []]] []] [100, 111, 110, 101] := by kernel_rfl
/-- while, the script, a newline, do x done. -/
theorem group2 (h : lists m 0 (lines s) = .ok a []) (hn : m ≤ n) (hn2 : 12 ≤ n) :
    (∃ l, parseF (n + 4) 0 ([119, 104, 105, 108, 101, 32] ++ s ++ [10, 100, 111, 32, 120, 10, 100, 111, 110, 101]) = .err l 63) ∨
    ∃ b, parseF (n + 4) 0 ([119, 104, 105, 108, 101, 32] ++ s ++ [10, 100, 111, 32, 120, 10, 100, 111, 110, 101]) = .ok [.mk [.mk false [.mk 5 [] [] [] a b [] [] []]] []] [] := by
  have eX : [119, 104, 105, 108, 101, 32] ++ s ++ [10, 100, 111, 32, 120, 10, 100, 111, 110, 101] = 119 :: ([104, 105, 108, 101] ++ 32 :: (s ++ [10, 100, 111, 32, 120, 10, 100, 111, 110, 101])) := by simp
  rw [eX]
  obtain ⟨p1, p2, p3⟩ := peek_plain 119 [104, 105, 108, 101] (32 :: (s ++ [10, 100, 111, 32, 120, 10, 100, 111, 110, 101])) rfl rfl (stop_sp _)
  have hX := key_plain 119 [104, 105, 108, 101] (32 :: (s ++ [10, 100, 111, 32, 120, 10, 100, 111, 110, 101])) rfl rfl (stop_sp _)
  have hb := body_more (d := 1) (q := 32 :: (s ++ [10, 100, 111, 32, 120, 10, 100, 111, 110, 101])) (y := [100, 111, 32, 120, 10, 100, 111, 110, 101]) h hn (lines_of_blanks (blanks_sp _ _ rfl)) (by simp) (by kernel_rfl) (by kernel_rfl)
  have hx := lists_there (n' := n) (d := 1) (x := []) lists_x hn2 (.inl rfl) (fun h => h.elim (fun h => h [.mk 1 false [100, 111, 110, 101] [] []] [] (by kernel_rfl)) (by decide))
  simp only [List.append_nil] at hx
  have e : ∀ X, compoundP (wordS n 1) (lists n 1) (branchF (fun d' => lists n d') X 1) (119 :: ([104, 105, 108, 101] ++ 32 :: (s ++ [10, 100, 111, 32, 120, 10, 100, 111, 110, 101]))) =
      (lists n 1 (32 :: (s ++ [10, 100, 111, 32, 120, 10, 100, 111, 110, 101]))).bind fun cond r1 => (loopP (lists n 1) r1).bind fun l r2 => .ok (some (.mk 5 [] [] [] cond l [] [] [])) r2 := by
    intro X
    unfold compoundP
    rw [p3, p1, p2]
    rfl
  have hm : mustP [100, 111] [100, 111, 32, 120, 10, 100, 111, 110, 101] = .ok () [32, 120, 10, 100, 111, 110, 101] := by kernel_rfl
  have hm2 : mustP [100, 111, 110, 101] [100, 111, 110, 101] = .ok () [] := by kernel_rfl
  rcases hb with ⟨l, hb⟩ | hb
  · exact .inl ⟨l, parse_one_err hX (by simp) (by rw [p2]; rfl) (command_err (by rw [compound, e, hb]; rfl))⟩
  · rcases hx with hx | ⟨l, hx⟩
    · have hl : loopP (lists n 1) [100, 111, 32, 120, 10, 100, 111, 110, 101] = .ok [.mk [.mk false [.mk 1 [] [] [[.mk 1 false [120] [] []]] [] [] [] [] []]] []] [] := by
        unfold loopP
        rw [hm]
        simp only [Rs.bind]
        rw [hx]
        simp only [Rs.bind]
        rw [hm2]
      refine .inr ⟨[.mk [.mk false [.mk 1 [] [] [[.mk 1 false [120] [] []]] [] [] [] [] []]] []], parse_one hX (by simp) (by rw [p2]; rfl) ?_⟩
      rw [command_comp (c := .mk 5 [] [] [] a [.mk [.mk false [.mk 1 [] [] [[.mk 1 false [120] [] []]] [] [] [] [] []]] []] [] [] []) (by rw [compound, e, hb]; simp only [Rs.bind]; rw [hl]), withRedirs_nil]
    · have hl : loopP (lists n 1) [100, 111, 32, 120, 10, 100, 111, 110, 101] = .err l 63 := by
        unfold loopP
        rw [hm]
        simp only [Rs.bind]
        rw [hx]
      exact .inl ⟨l, parse_one_err hX (by simp) (by rw [p2]; rfl) (command_err (by rw [compound, e, hb]; simp only [Rs.bind]; rw [hl]))⟩
theorem lists_x2 : lists 12 0 (lines [32, 120]) = .ok [.mk [.mk false [.mk 1 [] [] [[.mk 1 false [120] [] []]] [] [] [] [] []]] []] [] := by kernel_rfl
/-- An if, its condition read. -/
theorem branch_fi (cond : List Lst) (r0 y1 : Bytes) (h : lists m 0 (lines s) = .ok a []) (hn : m ≤ n) (X : Nat) (hy : y1 = 32 :: (s ++ [10, 102, 105])) (hc : lists n 1 r0 = .ok cond (116 :: ([104, 101, 110] ++ y1))) :
    (∃ l, branchF (fun d' => lists n d') (X + 1) 1 r0 = .err l 63) ∨ branchF (fun d' => lists n d') (X + 1) 1 r0 = .ok (.mk 4 [] [] [] cond a [] [] []) [] := by
  have hm := must_plain 116 [104, 101, 110] y1 rfl rfl (by rw [hy]; exact stop_sp _)
  have hb := body_more (d := 1) (q := y1) (y := [102, 105]) h hn (by rw [hy]; exact lines_of_blanks (blanks_sp _ _ rfl)) (by rw [hy]; simp) (by kernel_rfl) (by kernel_rfl)
  rcases hb with ⟨l, hb⟩ | hb
  · left
    refine ⟨l, ?_⟩
    rw [branchF, hc]
    simp only [Rs.bind]
    rw [hm]
    simp only [Rs.bind]
    rw [hb]
  · right
    rw [branchF, hc]
    simp only [Rs.bind]
    rw [hm]
    simp only [Rs.bind]
    rw [hb]
    simp only [Rs.bind]
    have q1 : ((peek [102, 105]).1 == [101, 108, 105, 102]) = false := by kernel_rfl
    have q2 : ((peek (blanks [102, 105])).1 == [101, 108, 115, 101]) = false := by kernel_rfl
    have q3 : mustP [102, 105] (blanks (blanks [102, 105])) = .ok () [] := by kernel_rfl
    rw [q1, q2, q3]
    rfl
theorem if_comp (t : Bytes) (ht : Stop t) (X : Nat) (d : Nat) : compoundP (wordS n d) (lists n d) (branchF (fun d' => lists n d') X d) (105 :: ([102] ++ t)) = (branchF (fun d' => lists n d') X d t).bind fun c r1 => .ok (some c) r1 := by
  obtain ⟨p1, p2, p3⟩ := peek_plain 105 [102] t rfl rfl ht
  unfold compoundP
  rw [p3, p1, p2]
  rfl
/-- if x, a newline, then, the script, a newline, fi. -/
theorem group3 (h : lists m 0 (lines s) = .ok a []) (hn : m ≤ n) (hn2 : 12 ≤ n) :
    (∃ l, parseF (n + 4) 0 ([105, 102, 32, 120, 10, 116, 104, 101, 110, 32] ++ s ++ [10, 102, 105]) = .err l 63) ∨
    ∃ b, parseF (n + 4) 0 ([105, 102, 32, 120, 10, 116, 104, 101, 110, 32] ++ s ++ [10, 102, 105]) = .ok [.mk [.mk false [.mk 4 [] [] [] b a [] [] []]] []] [] := by
  have eX : [105, 102, 32, 120, 10, 116, 104, 101, 110, 32] ++ s ++ [10, 102, 105] = 105 :: ([102] ++ 32 :: 120 :: 10 :: 116 :: ([104, 101, 110] ++ 32 :: (s ++ [10, 102, 105]))) := by simp
  rw [eX]
  have hX := key_plain 105 [102] (32 :: 120 :: 10 :: 116 :: ([104, 101, 110] ++ 32 :: (s ++ [10, 102, 105]))) rfl rfl (stop_sp _)
  have p2 := (peek_plain 105 [102] (32 :: 120 :: 10 :: 116 :: ([104, 101, 110] ++ 32 :: (s ++ [10, 102, 105]))) rfl rfl (stop_sp _)).2.1
  have hb := body_more (d := 1) (s := [32, 120]) (q := 32 :: 120 :: 10 :: 116 :: ([104, 101, 110] ++ 32 :: (s ++ [10, 102, 105]))) (y := 116 :: ([104, 101, 110] ++ 32 :: (s ++ [10, 102, 105]))) lists_x2 hn2 rfl (by simp; omega)
    (key_plain 116 [104, 101, 110] _ rfl rfl (stop_sp _)) (over_plain 116 [104, 101, 110] _ rfl rfl (stop_sp _) rfl)
  rcases hb with ⟨l, hb⟩ | hb
  · refine .inl ⟨l, parse_one_err hX (by simp) (by rw [p2]; rfl) (command_err ?_)⟩
    rw [compound, if_comp _ (stop_sp _), branchF, hb]
    rfl
  · rcases branch_fi _ _ _ h hn ((105 :: ([102] ++ 32 :: 120 :: 10 :: 116 :: ([104, 101, 110] ++ 32 :: (s ++ [10, 102, 105])))).length) rfl hb with ⟨l, h1⟩ | h1
    · refine .inl ⟨l, parse_one_err hX (by simp) (by rw [p2]; rfl) (command_err ?_)⟩
      rw [compound, if_comp _ (stop_sp _), h1]
      rfl
    · refine .inr ⟨[.mk [.mk false [.mk 1 [] [] [[.mk 1 false [120] [] []]] [] [] [] [] []]] []], parse_one hX (by simp) (by rw [p2]; rfl) ?_⟩
      rw [command_comp (c := .mk 4 [] [] [] [.mk [.mk false [.mk 1 [] [] [[.mk 1 false [120] [] []]] [] [] [] [] []]] []] a [] [] []) (by rw [compound, if_comp _ (stop_sp _), h1]; rfl), withRedirs_nil]
/-- A function: f() and braces. -/
theorem group4 (h : lists m 0 (lines s) = .ok a []) (hn : m ≤ n) :
    (∃ l, parseF (n + 5) 0 ([102, 40, 41, 32, 123, 10] ++ s ++ [10, 125]) = .err l 63) ∨
    parseF (n + 5) 0 ([102, 40, 41, 32, 123, 10] ++ s ++ [10, 125]) = .ok [.mk [.mk false [.mk 9 [102] [] [] [] [.mk [.mk false [.mk 2 [] [] [] [] a [] [] []]] []] [] [] []]] []] [] := by
  have eX : [102, 40, 41, 32, 123, 10] ++ s ++ [10, 125] = 102 :: ([] ++ 40 :: 41 :: 32 :: 123 :: 10 :: (s ++ [10, 125])) := by simp
  rw [eX]
  have hst : Stop (40 :: 41 :: 32 :: 123 :: 10 :: (s ++ [10, 125])) := .inr ⟨_, _, rfl, rfl⟩
  have hX := key_plain 102 [] _ rfl rfl hst
  obtain ⟨p1, p2, p3⟩ := peek_plain 102 [] _ rfl rfl hst
  have ec : ∀ Y, compoundP (wordS (n + 1) 1) (lists (n + 1) 1) (branchF (fun d' => lists (n + 1) d') Y 1) (102 :: ([] ++ 40 :: 41 :: 32 :: 123 :: 10 :: (s ++ [10, 125]))) = .ok none (102 :: ([] ++ 40 :: 41 :: 32 :: 123 :: 10 :: (s ++ [10, 125]))) := by
    intro Y
    unfold compoundP
    rw [p3, p1, p2, p1]
    rfl
  have hr : ∀ wd, redirP wd (102 :: ([] ++ 40 :: 41 :: 32 :: 123 :: 10 :: (s ++ [10, 125]))) = .ok none (102 :: ([] ++ 40 :: 41 :: 32 :: 123 :: 10 :: (s ++ [10, 125]))) := by
    intro wd
    unfold redirP
    rw [p1]
    rw [show fdP (102 :: ([] ++ 40 :: 41 :: 32 :: 123 :: 10 :: (s ++ [10, 125]))) = (-1, 102 :: ([] ++ 40 :: 41 :: 32 :: 123 :: 10 :: (s ++ [10, 125]))) from rfl]
    dsimp only
    rw [p3]
    rfl
  have es : ∀ wd fn K, simpleF wd fn (K + 1) [] [] [] (102 :: ([] ++ 40 :: 41 :: 32 :: 123 :: 10 :: (s ++ [10, 125]))) = fn [102] (41 :: 32 :: 123 :: 10 :: (s ++ [10, 125])) := by
    intro wd fn K
    rw [simpleF, hr]
    simp only [Rs.bind]
    rw [p2, p3, p1]
    rfl
  have hw : wantP [41] (41 :: 32 :: 123 :: 10 :: (s ++ [10, 125])) = .ok () (32 :: 123 :: 10 :: (s ++ [10, 125])) := by
    unfold wantP sgn
    rw [blanks_stop 41 _ rfl rfl rfl]
    rfl
  have hl : lines (32 :: 123 :: 10 :: (s ++ [10, 125])) = 123 :: 10 :: (s ++ [10, 125]) := by
    rw [lines_of_blanks (blanks_sp _ _ rfl)]
    exact key_plain 123 [] _ rfl rfl (stop_nl _)
  have ecm : command (n + 3) 1 (102 :: ([] ++ 40 :: 41 :: 32 :: 123 :: 10 :: (s ++ [10, 125]))) = functionP (wordS (n + 2) 2) 1 (compound (n + 2) 2) [102] (41 :: 32 :: 123 :: 10 :: (s ++ [10, 125])) := by
    rw [command, compound, ec]
    simp only [Rs.bind]
    exact es _ _ _
  rcases comp_braces (n := n + 1) h (by omega) 2 with ⟨l, h1⟩ | h1
  · refine .inl ⟨l, parse_one_err (n := n + 3) hX (by simp) (by rw [p2]; rfl) ?_⟩
    rw [ecm, functionP, hw]
    simp only [Rs.bind]
    rw [if_neg (by omega), hl, h1]
  · refine .inr (parse_one (n := n + 3) hX (by simp) (by rw [p2]; rfl) ?_)
    rw [ecm, functionP, hw]
    simp only [Rs.bind]
    rw [if_neg (by omega), hl, h1]
    rfl
theorem lists_c1 : lists 12 0 [32, 120, 59, 32, 116, 104, 101, 110, 32, 121, 59, 32, 101, 108, 115, 101] = .ok [.mk [.mk false [.mk 1 [] [] [[.mk 1 false [120] [] []]] [] [] [] [] []]] []] [116, 104, 101, 110, 32, 121, 59, 32, 101, 108, 115, 101] := by kernel_rfl
theorem lists_c2 : lists 12 0 [32, 121, 59, 32, 101, 108, 115, 101] = .ok [.mk [.mk false [.mk 1 [] [] [[.mk 1 false [121] [] []]] [] [] [] [] []]] []] [101, 108, 115, 101] := by kernel_rfl
/-- if x; then y; else, a newline, the script, a newline, fi. -/
theorem group5 (h : lists m 0 (lines s) = .ok a []) (hn : m ≤ n) (hn2 : 12 ≤ n) :
    (∃ l, parseF (n + 4) 0 ([105, 102, 32, 120, 59, 32, 116, 104, 101, 110, 32, 121, 59, 32, 101, 108, 115, 101, 10] ++ s ++ [10, 102, 105]) = .err l 63) ∨
    ∃ b c, parseF (n + 4) 0 ([105, 102, 32, 120, 59, 32, 116, 104, 101, 110, 32, 121, 59, 32, 101, 108, 115, 101, 10] ++ s ++ [10, 102, 105]) = .ok [.mk [.mk false [.mk 4 [] [] [] b c a [] []]] []] [] := by
  have eX : [105, 102, 32, 120, 59, 32, 116, 104, 101, 110, 32, 121, 59, 32, 101, 108, 115, 101, 10] ++ s ++ [10, 102, 105] = 105 :: ([102] ++ ([32, 120, 59, 32, 116, 104, 101, 110, 32, 121, 59, 32, 101, 108, 115, 101] ++ 10 :: (s ++ [10, 102, 105]))) := by simp
  rw [eX]
  have hst : Stop ([32, 120, 59, 32, 116, 104, 101, 110, 32, 121, 59, 32, 101, 108, 115, 101] ++ 10 :: (s ++ [10, 102, 105])) := .inr ⟨32, _, rfl, rfl⟩
  have hX := key_plain 105 [102] _ rfl rfl hst
  have p2 := (peek_plain 105 [102] _ rfl rfl hst).2.1
  have h1 := lists_there (n' := n) (d := 1) (x := 10 :: (s ++ [10, 102, 105])) lists_c1 hn2 (.inr ⟨_, rfl⟩) (fun h => h.elim (fun h => h [.mk 1 false [116, 104, 101, 110] [] []] [32, 121, 59, 32, 101, 108, 115, 101] (by kernel_rfl)) (by decide))
  have h2 := lists_there (n' := n) (d := 1) (x := 10 :: (s ++ [10, 102, 105])) lists_c2 hn2 (.inr ⟨_, rfl⟩) (fun h => h.elim (fun h => h [.mk 1 false [101, 108, 115, 101] [] []] [] (by kernel_rfl)) (by decide))
  have hb := body_more (d := 1) (q := 10 :: (s ++ [10, 102, 105])) (y := [102, 105]) h hn (lines_step (blanks_nl _)) (by simp) (by kernel_rfl) (by kernel_rfl)
  have hm := must_plain 116 [104, 101, 110] ([32, 121, 59, 32, 101, 108, 115, 101] ++ 10 :: (s ++ [10, 102, 105])) rfl rfl (.inr ⟨32, _, rfl, rfl⟩)
  obtain ⟨e1, e2, _⟩ := peek_plain 101 [108, 115, 101] (10 :: (s ++ [10, 102, 105])) rfl rfl (stop_nl _)
  have hfi : mustP [102, 105] [102, 105] = .ok () [] := by kernel_rfl
  have bad : ∀ l, branchF (fun d' => lists n d') ((105 :: ([102] ++ ([32, 120, 59, 32, 116, 104, 101, 110, 32, 121, 59, 32, 101, 108, 115, 101] ++ 10 :: (s ++ [10, 102, 105])))).length + 1) 1 ([32, 120, 59, 32, 116, 104, 101, 110, 32, 121, 59, 32, 101, 108, 115, 101] ++ 10 :: (s ++ [10, 102, 105])) = .err l 63 →
      parseF (n + 4) 0 (105 :: ([102] ++ ([32, 120, 59, 32, 116, 104, 101, 110, 32, 121, 59, 32, 101, 108, 115, 101] ++ 10 :: (s ++ [10, 102, 105])))) = .err l 63 := by
    intro l hl
    refine parse_one_err hX (by simp) (by rw [p2]; rfl) (command_err ?_)
    rw [compound, if_comp _ hst, hl]
    rfl
  rcases h1 with h1 | ⟨l, h1⟩
  · rcases h2 with h2 | ⟨l, h2⟩
    · rcases hb with ⟨l, hb⟩ | hb
      · refine .inl ⟨l, bad l ?_⟩
        rw [branchF, h1]
        simp only [Rs.bind]
        rw [show ([116, 104, 101, 110, 32, 121, 59, 32, 101, 108, 115, 101] ++ 10 :: (s ++ [10, 102, 105]) : Bytes) = 116 :: ([104, 101, 110] ++ ([32, 121, 59, 32, 101, 108, 115, 101] ++ 10 :: (s ++ [10, 102, 105]))) from rfl, hm]
        simp only [Rs.bind]
        rw [h2]
        simp only [Rs.bind]
        rw [show ([101, 108, 115, 101] ++ 10 :: (s ++ [10, 102, 105]) : Bytes) = 101 :: ([108, 115, 101] ++ 10 :: (s ++ [10, 102, 105])) from rfl, e2, show ((([101, 108, 115, 101], 10 :: (s ++ [10, 102, 105])) : Bytes × Bytes).1 == [101, 108, 105, 102]) = false from rfl, if_neg Bool.false_ne_true, e1, e2, if_pos (by rfl), hb]
      · refine .inr ⟨[.mk [.mk false [.mk 1 [] [] [[.mk 1 false [120] [] []]] [] [] [] [] []]] []], [.mk [.mk false [.mk 1 [] [] [[.mk 1 false [121] [] []]] [] [] [] [] []]] []], parse_one hX (by simp) (by rw [p2]; rfl) ?_⟩
        rw [command_comp (c := .mk 4 [] [] [] [.mk [.mk false [.mk 1 [] [] [[.mk 1 false [120] [] []]] [] [] [] [] []]] []] [.mk [.mk false [.mk 1 [] [] [[.mk 1 false [121] [] []]] [] [] [] [] []]] []] a [] []), withRedirs_nil]
        rw [compound, if_comp _ hst, branchF, h1]
        simp only [Rs.bind]
        rw [show ([116, 104, 101, 110, 32, 121, 59, 32, 101, 108, 115, 101] ++ 10 :: (s ++ [10, 102, 105]) : Bytes) = 116 :: ([104, 101, 110] ++ ([32, 121, 59, 32, 101, 108, 115, 101] ++ 10 :: (s ++ [10, 102, 105]))) from rfl, hm]
        simp only [Rs.bind]
        rw [h2]
        simp only [Rs.bind]
        rw [show ([101, 108, 115, 101] ++ 10 :: (s ++ [10, 102, 105]) : Bytes) = 101 :: ([108, 115, 101] ++ 10 :: (s ++ [10, 102, 105])) from rfl, e2, show ((([101, 108, 115, 101], 10 :: (s ++ [10, 102, 105])) : Bytes × Bytes).1 == [101, 108, 105, 102]) = false from rfl, if_neg Bool.false_ne_true, e1, e2, if_pos (by rfl), hb]
        simp only [Rs.bind]
        rw [hfi]
    · refine .inl ⟨l, bad l ?_⟩
      rw [branchF, h1]
      simp only [Rs.bind]
      rw [show ([116, 104, 101, 110, 32, 121, 59, 32, 101, 108, 115, 101] ++ 10 :: (s ++ [10, 102, 105]) : Bytes) = 116 :: ([104, 101, 110] ++ ([32, 121, 59, 32, 101, 108, 115, 101] ++ 10 :: (s ++ [10, 102, 105]))) from rfl, hm]
      simp only [Rs.bind]
      rw [h2]
  · refine .inl ⟨l, bad l ?_⟩
    rw [branchF, h1]
    rfl
end
end Go.Proofs.Ytdfnkmiabmjolaa
namespace Go.Proofs.Ytdfnkmiabmjolaa
end Go.Proofs.Ytdfnkmiabmjolaa
