/- Walks of the law's comparisons: cmds, given lists. -/
import Derived.Test.YtdfnkmiabmjolaaK12
namespace Go.Proofs.Ytdfnkmiabmjolaa
open Go.RowKit
set_option linter.unusedVariables false
set_option linter.unusedSimpArgs false

theorem Rep.heap {w w' : World} {S : Nat → Prop} {d : D} {cs : List Value} (h : Rep w S d cs) (hh : w'.heap = w.heap) : Rep w' S d cs := Rep.move (fun k _ _ => by rw [hh]) (fun _ h _ => h) _ _ h

set_option pp.deepTerms true in
set_option pp.maxSteps 200000 in
set_option maxRecDepth 100000 in
set_option maxHeartbeats 4000000 in
theorem cmds_step (n : Nat) (IH : ListsSame n) (w : World) (S1 S2 : Nat → Prop) (v1 v2 : Value) (cs : List Cmd) (hn : SizeOf.sizeOf cs ≤ n) (h1 : Rep w S1 (.sl 53 9 (Cmd.ds cs)) [v1]) (h2 : Rep w S2 (.sl 53 9 (Cmd.ds cs)) [v2]) :
    Calls Try.prog 34 #[v1, v2] w fun e w' => e = .returned (.bool true) ∧ Chg (fun _ => False) w w' := by
  obtain ⟨B1, d1, rfl⟩ := sl_form h1
  obtain ⟨B2, d2, rfl⟩ := sl_form h2
  simp only [Cmd.ds_map, List.length_map] at h1 h2 ⊢
  go_enter Try.func34, Try.ntmps34
  go_wp2
  go_loopg [5] cs.length (fun rk i wr => ∃ k : Nat, k + rk = cs.length ∧ i = .int .i64 k ∧ Chg (fun _ => False) w wr)
  case atStart => exact ⟨0, by omega, rfl, Chg.refl _ _⟩
  case round =>
    obtain ⟨k, hk, rfl, hC⟩ := hrel
    generalize wr = W0 at *
    have h1' := h1.stay hC (fun _ _ e => e)
    have h2' := h2.stay hC (fun _ _ e => e)
    clear h1 h2
    by_cases hlt : k < cs.length
    · obtain ⟨p, hp⟩ : ∃ p, cs[k]? = some p := ⟨cs[k], List.getElem?_eq_getElem hlt⟩
      have hmem : p ∈ cs := List.mem_of_getElem? hp
      have hsz := List.sizeOf_lt_of_mem hmem
      obtain ⟨b1, o1, c1', cs1, hv1, hc1, hm1, hb1, hr1, hl1, hcs1⟩ := sl_get h1' (by omega) k p.d (by rw [List.getElem?_map, hp]; rfl)
      obtain ⟨b2, o2, c2', cs2, hv2, _, _, hb2, hr2, hl2, hcs2⟩ := sl_get h2' (by omega) k p.d (by rw [List.getElem?_map, hp]; rfl)
      simp only [List.length_map, Value.slice.injEq] at hv1 hv2
      obtain ⟨rfl, _, rfl⟩ := hv1
      obtain ⟨rfl, _, rfl⟩ := hv2
      simp only [List.length_map, maxLen] at hc1 hm1
      have r0 : IntKind.i64.wrap ((k : Int) + 1) = (k : Int) + 1 := IntWalk.i64_in _ (by omega)
      clear hp h1' h2' hmem
      obtain ⟨kk, nn, xas, ws, co, bo, ot, ca, rs⟩ := p
      obtain ⟨x1, x2, x3, x4, x5, x6, x7, rfl, hx1, hx2, hx3, hx4, hx5, hx6, hx7⟩ := cmd_rep.1 hr1
      obtain ⟨y1, y2, y3, y4, y5, y6, y7, rfl, hy1, hy2, hy3, hy4, hy5, hy6, hy7⟩ := cmd_rep.1 hr2
      obtain ⟨A1, n1, rfl⟩ := sl_form hx1
      obtain ⟨A2, n2, rfl⟩ := sl_form hx2
      obtain ⟨A3, n3, rfl⟩ := sl_form hx3
      obtain ⟨A4, n4, rfl⟩ := sl_form hx4
      obtain ⟨A5, n5, rfl⟩ := sl_form hx5
      obtain ⟨A6, n6, rfl⟩ := sl_form hx6
      obtain ⟨A7, n7, rfl⟩ := sl_form hx7
      obtain ⟨E1, m1, rfl⟩ := sl_form hy1
      obtain ⟨E2, m2, rfl⟩ := sl_form hy2
      obtain ⟨E3, m3, rfl⟩ := sl_form hy3
      obtain ⟨E4, m4, rfl⟩ := sl_form hy4
      obtain ⟨E5, m5, rfl⟩ := sl_form hy5
      obtain ⟨E6, m6, rfl⟩ := sl_form hy6
      obtain ⟨E7, m7, rfl⟩ := sl_form hy7
      simp only [Cas.ds_map, Lst.ds_map, List.length_map] at hx1 hx2 hx3 hx4 hx5 hx6 hx7 hy1 hy2 hy3 hy4 hy5 hy6 hy7 hcs1 hcs2
      have g10 := hcs1 0 _ rfl
      have g11 := hcs1 1 _ rfl
      have g12 := hcs1 2 _ rfl
      have g13 := hcs1 3 _ rfl
      have g14 := hcs1 4 _ rfl
      have g15 := hcs1 5 _ rfl
      have g16 := hcs1 6 _ rfl
      have g17 := hcs1 7 _ rfl
      have g18 := hcs1 8 _ rfl
      have g20 := hcs2 0 _ rfl
      have g21 := hcs2 1 _ rfl
      have g22 := hcs2 2 _ rfl
      have g23 := hcs2 3 _ rfl
      have g24 := hcs2 4 _ rfl
      have g25 := hcs2 5 _ rfl
      have g26 := hcs2 6 _ rfl
      have g27 := hcs2 7 _ rfl
      have g28 := hcs2 8 _ rfl
      simp only [Nat.add_zero, ← Nat.add_assoc] at g10 g11 g12 g13 g14 g15 g16 g17 g18 g20 g21 g22 g23 g24 g25 g26 g27 g28
      clear hcs1 hcs2 hr1 hr2
      go_upto_region 6 with fail
      go_cut [6, 7] (fun v6 v7 wx => ∃ X Y, v6 = .pointer (some ⟨X, 0, none⟩) ∧ v7 = .pointer (some ⟨Y, 0, none⟩) ∧ wx.heap[X]? = some (.cells #[.int .i64 kk, .string (bstr nn), .slice A1 xas.length n1, .slice A2 ws.length n2, .slice A3 co.length n3, .slice A4 bo.length n4, .slice A5 ot.length n5, .slice A6 ca.length n6, .slice A7 rs.length n7] 53) ∧ wx.heap[Y]? = some (.cells #[.int .i64 kk, .string (bstr nn), .slice E1 xas.length m1, .slice E2 ws.length m2, .slice E3 co.length m3, .slice E4 bo.length m4, .slice E5 ot.length m5, .slice E6 ca.length m6, .slice E7 rs.length m7] 53) ∧ Chg (fun _ => False) W0 wx)
      case first =>
        go_region_held3 (fun w' => w'.cell? ⟨b1, o1 + k * 9, none⟩ = some (.int .i64 kk) ∧ w'.cell? ⟨b1, o1 + k * 9 + 1, none⟩ = some (.string (bstr nn)) ∧ w'.cell? ⟨b1, o1 + k * 9 + 2, none⟩ = some (.slice A1 xas.length n1) ∧ w'.cell? ⟨b1, o1 + k * 9 + 3, none⟩ = some (.slice A2 ws.length n2) ∧ w'.cell? ⟨b1, o1 + k * 9 + 4, none⟩ = some (.slice A3 co.length n3) ∧ w'.cell? ⟨b1, o1 + k * 9 + 5, none⟩ = some (.slice A4 bo.length n4) ∧ w'.cell? ⟨b1, o1 + k * 9 + 6, none⟩ = some (.slice A5 ot.length n5) ∧ w'.cell? ⟨b1, o1 + k * 9 + 7, none⟩ = some (.slice A6 ca.length n6) ∧ w'.cell? ⟨b1, o1 + k * 9 + 8, none⟩ = some (.slice A7 rs.length n7) ∧ w'.cell? ⟨b2, o2 + k * 9, none⟩ = some (.int .i64 kk) ∧ w'.cell? ⟨b2, o2 + k * 9 + 1, none⟩ = some (.string (bstr nn)) ∧ w'.cell? ⟨b2, o2 + k * 9 + 2, none⟩ = some (.slice E1 xas.length m1) ∧ w'.cell? ⟨b2, o2 + k * 9 + 3, none⟩ = some (.slice E2 ws.length m2) ∧ w'.cell? ⟨b2, o2 + k * 9 + 4, none⟩ = some (.slice E3 co.length m3) ∧ w'.cell? ⟨b2, o2 + k * 9 + 5, none⟩ = some (.slice E4 bo.length m4) ∧ w'.cell? ⟨b2, o2 + k * 9 + 6, none⟩ = some (.slice E5 ot.length m5) ∧ w'.cell? ⟨b2, o2 + k * 9 + 7, none⟩ = some (.slice E6 ca.length m6) ∧ w'.cell? ⟨b2, o2 + k * 9 + 8, none⟩ = some (.slice E7 rs.length m7)) (go_keep) (fail)
        · go_wp2
          go_meet
          have q1 := row_alloc (row_new W0 (.cells #[.int .i64 kk, .string (bstr nn), .slice A1 xas.length n1, .slice A2 ws.length n2, .slice A3 co.length n3, .slice A4 bo.length n4, .slice A5 ot.length n5, .slice A6 ca.length n6, .slice A7 rs.length n7] 53)) (.cells #[.int .i64 kk, .string (bstr nn), .slice E1 xas.length m1, .slice E2 ws.length m2, .slice E3 co.length m3, .slice E4 bo.length m4, .slice E5 ot.length m5, .slice E6 ca.length m6, .slice E7 rs.length m7] 53)
          have q2 := row_new (W0.alloc (.cells #[.int .i64 kk, .string (bstr nn), .slice A1 xas.length n1, .slice A2 ws.length n2, .slice A3 co.length n3, .slice A4 bo.length n4, .slice A5 ot.length n5, .slice A6 ca.length n6, .slice A7 rs.length n7] 53)) (.cells #[.int .i64 kk, .string (bstr nn), .slice E1 xas.length m1, .slice E2 ws.length m2, .slice E3 co.length m3, .slice E4 bo.length m4, .slice E5 ot.length m5, .slice E6 ca.length m6, .slice E7 rs.length m7] 53)
          simp only [World.size_alloc] at q2
          exact ⟨_, _, rfl, rfl, q1, q2, (((Chg.refl _ W0).alloc _).alloc _).drewN 1⟩
        · go_wp2
          go_meet
          have q1 := row_alloc (row_new W0 (.cells #[.int .i64 kk, .string (bstr nn), .slice E1 xas.length m1, .slice E2 ws.length m2, .slice E3 co.length m3, .slice E4 bo.length m4, .slice E5 ot.length m5, .slice E6 ca.length m6, .slice E7 rs.length m7] 53)) (.cells #[.int .i64 kk, .string (bstr nn), .slice A1 xas.length n1, .slice A2 ws.length n2, .slice A3 co.length n3, .slice A4 bo.length n4, .slice A5 ot.length n5, .slice A6 ca.length n6, .slice A7 rs.length n7] 53)
          have q2 := row_new (W0.alloc (.cells #[.int .i64 kk, .string (bstr nn), .slice E1 xas.length m1, .slice E2 ws.length m2, .slice E3 co.length m3, .slice E4 bo.length m4, .slice E5 ot.length m5, .slice E6 ca.length m6, .slice E7 rs.length m7] 53)) (.cells #[.int .i64 kk, .string (bstr nn), .slice A1 xas.length n1, .slice A2 ws.length n2, .slice A3 co.length n3, .slice A4 bo.length n4, .slice A5 ot.length n5, .slice A6 ca.length n6, .slice A7 rs.length n7] 53)
          simp only [World.size_alloc] at q2
          exact ⟨_, _, rfl, rfl, q2, q1, (((Chg.refl _ W0).alloc _).alloc _).drewN 1⟩
      case rest =>
        obtain ⟨X, Y, rfl, rfl, hX, hY, hC1⟩ := hcut
        generalize wc = W1 at *
        have HX := Lib.hid (⟨hx1.stay hC1 (fun _ _ e => e), hx6.stay hC1 (fun _ _ e => e), hx7.stay hC1 (fun _ _ e => e), hx3.stay hC1 (fun _ _ e => e), hx4.stay hC1 (fun _ _ e => e), hx5.stay hC1 (fun _ _ e => e)⟩ : _ ∧ _ ∧ _ ∧ _ ∧ _ ∧ _)
        have HY := Lib.hid (⟨hy1.stay hC1 (fun _ _ e => e), hy6.stay hC1 (fun _ _ e => e), hy7.stay hC1 (fun _ _ e => e), hy3.stay hC1 (fun _ _ e => e), hy4.stay hC1 (fun _ _ e => e), hy5.stay hC1 (fun _ _ e => e)⟩ : _ ∧ _ ∧ _ ∧ _ ∧ _ ∧ _)
        have hw1 := hx2.stay hC1 (fun _ _ e => e)
        have hw2 := hy2.stay hC1 (fun _ _ e => e)
        clear hx1 hx2 hx3 hx4 hx5 hx6 hx7 hy1 hy2 hy3 hy4 hy5 hy6 hy7 g10 g11 g12 g13 g14 g15 g16 g17 g18 g20 g21 g22 g23 g24 g25 g26 g27 g28
        have hcX := row_cells hX
        have hcY := row_cells hY
        generalize bstr nn = nb at *
        go_wp2_with fail
        refine (words_calls W1 S1 S2 _ _ ws hw1 hw2).mono ?_
        rintro e W2 ⟨rfl, mq, rfl⟩
        clear hw1 hw2
        have HXY := Lib.hid (And.intro hX hY)
        have HR0 := Lib.hid r0
        go_wp2
        clear hX hY hcX hcY r0
        go_loopg [8] xas.length (fun rk i wx => ∃ j : Nat, j + rk = xas.length ∧ i = .int .i64 j ∧ Chg (fun _ => False) W1 wx)
        case atStart => exact ⟨0, by omega, rfl, (Chg.refl _ _).drewN _⟩
        case round =>
          obtain ⟨j, hj, rfl, hC2⟩ := hrel
          generalize wr = W2 at *
          have hX2 := row_chg HXY.out.1 hC2 (fun e => e)
          have hY2 := row_chg HXY.out.2 hC2 (fun e => e)
          have hcX := row_cells hX2
          have hcY := row_cells hY2
          by_cases hjl : j < xas.length
          · as_aux_lemma =>
              have hz1 := HX.out.1.stay hC2 (fun _ _ e => e)
              have hz2 := HY.out.1.stay hC2 (fun _ _ e => e)
              obtain ⟨p, hp⟩ : ∃ o, xas[j]? = some o := ⟨xas[j], List.getElem?_eq_getElem hjl⟩
              obtain ⟨b3, o3, c3', cs3, hv3, hc3, hm3, _, hr3, hl3, hcs3⟩ := sl_get hz1 (by omega) j p.d (by rw [List.getElem?_map, hp]; rfl)
              obtain ⟨b4, o4, c4', cs4, hv4, _, _, _, hr4, hl4, hcs4⟩ := sl_get hz2 (by omega) j p.d (by rw [List.getElem?_map, hp]; rfl)
              simp only [List.length_map, Value.slice.injEq] at hv3 hv4
              obtain ⟨rfl, _, rfl⟩ := hv3
              obtain ⟨rfl, _, rfl⟩ := hv4
              simp only [List.length_map, maxLen] at hc3 hm3
              obtain ⟨an, aw⟩ := p
              obtain ⟨u1, rfl, ha1⟩ := asg_rep.1 hr3
              obtain ⟨u2, rfl, ha2⟩ := asg_rep.1 hr4
              have k31 := hcs3 0 _ rfl
              have k32 := hcs3 1 _ rfl
              have k41 := hcs4 0 _ rfl
              have k42 := hcs4 1 _ rfl
              simp only [Nat.add_zero, ← Nat.add_assoc] at k31 k32 k41 k42
              have hcall : ∀ m' : Nat, Calls Try.prog 12 #[u1, u2] (W2.drewN m') fun e w' => e = .returned (.bool true) ∧ ∃ n, w' = (W2.drewN m').drewN n :=
                fun m' => (same_calls (W2.drewN m') S1 S2 u1 u2 aw aw (ha1.stay ((Chg.refl (fun _ => False) _).drewN _) (fun _ _ e => e)) (ha2.stay ((Chg.refl (fun _ => False) _).drewN _) (fun _ _ e => e))).mono (fun _ _ hh => ⟨by rw [← beqs_refl aw]; exact hh.1, hh.2⟩)
              obtain ⟨Q1, q1, rfl⟩ := sl_form ha1
              obtain ⟨Q2, q2, rfl⟩ := sl_form ha2
              have r1 : IntKind.i64.wrap ((j : Int) + 1) = (j : Int) + 1 := IntWalk.i64_in _ (by omega)
              clear hp hz1 hz2 hcs3 hcs4 hr3 hr4 ha1 ha2 hX2 hY2
              generalize bstr an = ab at *
              go_wp2
              go_quiet ((go_at_call 12; exact (hcall _).quiet_of))
              go_wp2
              go_roundg (gk - 1)
              case measure => omega
              case rel => exact ⟨j + 1, by omega, rfl, hC2.drewN _⟩
          · clear hX2 hY2
            go_wp2
            clear hcX hcY
            go_loopg [9] rs.length (fun rk i wx => ∃ j : Nat, j + rk = rs.length ∧ i = .int .i64 j ∧ Chg (fun _ => False) W1 wx)
            case atStart => exact ⟨0, by omega, rfl, hC2⟩
            case round =>
              clear hC2 hj hjl
              obtain ⟨j, hj, rfl, hC2⟩ := hrel
              generalize wr = W3 at *
              have hX2 := row_chg HXY.out.1 hC2 (fun e => e)
              have hY2 := row_chg HXY.out.2 hC2 (fun e => e)
              have hcX := row_cells hX2
              have hcY := row_cells hY2
              by_cases hjl : j < rs.length
              · as_aux_lemma =>
                  have hz1 := HX.out.2.2.1.stay hC2 (fun _ _ e => e)
                  have hz2 := HY.out.2.2.1.stay hC2 (fun _ _ e => e)
                  obtain ⟨p, hp⟩ : ∃ o, rs[j]? = some o := ⟨rs[j], List.getElem?_eq_getElem hjl⟩
                  obtain ⟨b3, o3, c3', cs3, hv3, hc3, hm3, _, hr3, hl3, hcs3⟩ := sl_get hz1 (by omega) j p.d (by rw [List.getElem?_map, hp]; rfl)
                  obtain ⟨b4, o4, c4', cs4, hv4, _, _, _, hr4, hl4, hcs4⟩ := sl_get hz2 (by omega) j p.d (by rw [List.getElem?_map, hp]; rfl)
                  simp only [List.length_map, Value.slice.injEq] at hv3 hv4
                  obtain ⟨rfl, _, rfl⟩ := hv3
                  obtain ⟨rfl, _, rfl⟩ := hv4
                  simp only [List.length_map, maxLen] at hc3 hm3
                  obtain ⟨fd, an, aw⟩ := p
                  obtain ⟨u1, rfl, ha1⟩ := rdr_rep.1 hr3
                  obtain ⟨u2, rfl, ha2⟩ := rdr_rep.1 hr4
                  have k31 := hcs3 0 _ rfl
                  have k32 := hcs3 1 _ rfl
                  have k33 := hcs3 2 _ rfl
                  have k41 := hcs4 0 _ rfl
                  have k42 := hcs4 1 _ rfl
                  have k43 := hcs4 2 _ rfl
                  simp only [Nat.add_zero, ← Nat.add_assoc] at k31 k32 k33 k41 k42 k43
                  have hcall : ∀ m' : Nat, Calls Try.prog 12 #[u1, u2] (W3.drewN m') fun e w' => e = .returned (.bool true) ∧ ∃ n, w' = (W3.drewN m').drewN n :=
                    fun m' => (same_calls (W3.drewN m') S1 S2 u1 u2 aw aw (ha1.stay ((Chg.refl (fun _ => False) _).drewN _) (fun _ _ e => e)) (ha2.stay ((Chg.refl (fun _ => False) _).drewN _) (fun _ _ e => e))).mono (fun _ _ hh => ⟨by rw [← beqs_refl aw]; exact hh.1, hh.2⟩)
                  obtain ⟨Q1, q1, rfl⟩ := sl_form ha1
                  obtain ⟨Q2, q2, rfl⟩ := sl_form ha2
                  have r1 : IntKind.i64.wrap ((j : Int) + 1) = (j : Int) + 1 := IntWalk.i64_in _ (by omega)
                  clear hp hz1 hz2 hcs3 hcs4 hr3 hr4 ha1 ha2 hX2 hY2
                  generalize bstr an = ab at *
                  go_wp2
                  go_quiet ((go_at_call 12; exact (hcall _).quiet_of))
                  go_wp2
                  go_roundg (rs.length - (j + 1))
                  case measure => omega
                  case rel => exact ⟨j + 1, by omega, rfl, hC2.drewN _⟩
              · clear hX2 hY2
                go_wp2
                clear hcX hcY
                go_loopg [10] ca.length (fun rk i wx => ∃ j : Nat, j + rk = ca.length ∧ i = .int .i64 j ∧ Chg (fun _ => False) W1 wx)
                case atStart => exact ⟨0, by omega, rfl, hC2⟩
                case round =>
                  clear hC2 hj hjl
                  obtain ⟨j, hj, rfl, hC2⟩ := hrel
                  generalize wr = W4 at *
                  have hX2 := row_chg HXY.out.1 hC2 (fun e => e)
                  have hY2 := row_chg HXY.out.2 hC2 (fun e => e)
                  have hcX := row_cells hX2
                  have hcY := row_cells hY2
                  by_cases hjl : j < ca.length
                  · as_aux_lemma =>
                      have hz1 := HX.out.2.1.stay hC2 (fun _ _ e => e)
                      have hz2 := HY.out.2.1.stay hC2 (fun _ _ e => e)
                      obtain ⟨p, hp⟩ : ∃ o, ca[j]? = some o := ⟨ca[j], List.getElem?_eq_getElem hjl⟩
                      have hmem := List.mem_of_getElem? hp
                      have hsz2 := List.sizeOf_lt_of_mem hmem
                      obtain ⟨b3, o3, c3', cs3, hv3, hc3, hm3, _, hr3, hl3, hcs3⟩ := sl_get hz1 (by omega) j p.d (by rw [List.getElem?_map, hp]; rfl)
                      obtain ⟨b4, o4, c4', cs4, hv4, _, _, _, hr4, hl4, hcs4⟩ := sl_get hz2 (by omega) j p.d (by rw [List.getElem?_map, hp]; rfl)
                      simp only [List.length_map, Value.slice.injEq] at hv3 hv4
                      obtain ⟨rfl, _, rfl⟩ := hv3
                      obtain ⟨rfl, _, rfl⟩ := hv4
                      simp only [List.length_map, maxLen] at hc3 hm3
                      obtain ⟨pp, cb⟩ := p
                      obtain ⟨u1, v1, rfl, ha1, hb1'⟩ := cas_rep.1 hr3
                      obtain ⟨u2, v2, rfl, ha2, hb2'⟩ := cas_rep.1 hr4
                      have k31 := hcs3 0 _ rfl
                      have k32 := hcs3 1 _ rfl
                      have k41 := hcs4 0 _ rfl
                      have k42 := hcs4 1 _ rfl
                      simp only [Nat.add_zero, ← Nat.add_assoc] at k31 k32 k41 k42
                      have hlt3 : SizeOf.sizeOf cb < n := by
                        simp only [Cmd.mk.sizeOf_spec, Cas.mk.sizeOf_spec] at hsz hsz2
                        omega
                      have hwords : ∀ w', w'.heap = W4.heap → Calls Try.prog 46 #[u1, u2] w' fun e w'' => e = .returned (.bool true) ∧ ∃ m, w'' = w'.drewN m :=
                        fun w' hh => words_calls w' S1 S2 _ _ pp (Rep.heap ha1 hh) (Rep.heap ha2 hh)
                      have hlists : ∀ w', w'.heap = W4.heap → Calls Try.prog 25 #[v1, v2] w' fun e w'' => e = .returned (.bool true) ∧ Chg (fun _ => False) w' w'' :=
                        fun w' hh => IH w' S1 S2 _ _ cb hlt3 (Rep.heap hb1' hh) (Rep.heap hb2' hh)
                      obtain ⟨Q1, q1, rfl⟩ := sl_form ha1
                      obtain ⟨Q2, q2, rfl⟩ := sl_form ha2
                      obtain ⟨Q3, q3, rfl⟩ := sl_form hb1'
                      obtain ⟨Q4, q4, rfl⟩ := sl_form hb2'
                      have r1 : IntKind.i64.wrap ((j : Int) + 1) = (j : Int) + 1 := IntWalk.i64_in _ (by omega)
                      have t1 := hcX 7
                      have t2 := hcY 7
                      simp only [List.getElem?_toArray, List.getElem?_cons_succ, List.getElem?_cons_zero] at t1 t2
                      clear hp hz1 hz2 hcs3 hcs4 hr3 hr4 ha1 ha2 hb1' hb2' hX2 hY2 hmem hsz2
                      have HM := Lib.hid hC2; clear hC2
                      generalize (pp.map wordD).length = lp at *
                      generalize (Lst.ds cb).length = lc at *
                      clear hl1 hl2 hl3 hl4
                      go_wp2
                      clear hcX hcY
                      go_region_held3 (fun w' => w'.cell? ⟨X, 7, none⟩ = some (.slice (some ⟨b3, o3, none⟩) ca.length n6) ∧ w'.cell? ⟨Y, 7, none⟩ = some (.slice (some ⟨b4, o4, none⟩) ca.length m6) ∧ w'.cell? ⟨b3, o3 + j * 2, none⟩ = some (.slice Q1 lp q1) ∧ w'.cell? ⟨b3, o3 + j * 2 + 1, none⟩ = some (.slice Q3 lc q3) ∧ w'.cell? ⟨b4, o4 + j * 2, none⟩ = some (.slice Q2 lp q2) ∧ w'.cell? ⟨b4, o4 + j * 2 + 1, none⟩ = some (.slice Q4 lc q4)) (first | go_keep | exact ⟨HK.out.1, HK.out.2.1, HK.out.2.2.1, HK.out.2.2.2.1, HK.out.2.2.2.2.1, HK.out.2.2.2.2.2⟩) (first
                        | (go_at_call 46; refine Calls.mono (hwords _ (by rfl)) ?_; rintro e w' ⟨rfl, mm, rfl⟩)
                        | (go_at_call 25; refine Calls.mono (hlists _ (by rfl)) ?_; rintro e w5 ⟨rfl, hC5⟩; have HK := Lib.hid (⟨hC5.cell t1 (fun e => e), hC5.cell t2 (fun e => e), hC5.cell k31 (fun e => e), hC5.cell k32 (fun e => e), hC5.cell k41 (fun e => e), hC5.cell k42 (fun e => e)⟩ : _ ∧ _ ∧ _ ∧ _ ∧ _ ∧ _)))
                      go_wp2
                      go_roundg (ca.length - (j + 1))
                      case measure => omega
                      case rel => exact ⟨j + 1, by omega, rfl, HM.out.trans (((Chg.refl (fun _ => False) W4).drewN _).trans hC5 (fun _ h _ => h)) (fun _ h _ => h)⟩
                  · as_aux_lemma =>
                      clear hcX hcY
                      have hl3 : SizeOf.sizeOf co < n := by simp only [Cmd.mk.sizeOf_spec] at hsz; omega
                      have hl4 : SizeOf.sizeOf bo < n := by simp only [Cmd.mk.sizeOf_spec] at hsz; omega
                      have hl5 : SizeOf.sizeOf ot < n := by simp only [Cmd.mk.sizeOf_spec] at hsz; omega
                      have hx3 := HX.out.2.2.2.1.stay hC2 (fun _ _ e => e)
                      have hy3 := HY.out.2.2.2.1.stay hC2 (fun _ _ e => e)
                      have hx4 := HX.out.2.2.2.2.1.stay hC2 (fun _ _ e => e)
                      have hy4 := HY.out.2.2.2.2.1.stay hC2 (fun _ _ e => e)
                      have hx5 := HX.out.2.2.2.2.2.stay hC2 (fun _ _ e => e)
                      have hy5 := HY.out.2.2.2.2.2.stay hC2 (fun _ _ e => e)
                      simp only [← Lst.ds_map] at hx3 hy3 hx4 hy4 hx5 hy5
                      have hcX := row_cells hX2
                      have hcY := row_cells hY2
                      have HX3 := Lib.hid hx3; have HY3 := Lib.hid hy3; have HX4 := Lib.hid hx4; have HY4 := Lib.hid hy4; have HX5 := Lib.hid hx5; have HY5 := Lib.hid hy5
                      clear hx3 hy3 hx4 hy4 hx5 hy5 hl1 hl2
                      have HM := Lib.hid hC2; clear hC2
                      have HX2 := Lib.hid (And.intro hX2 hY2); clear hX2 hY2
                      go_wp2_with fail
                      refine (IH W4 S1 S2 _ _ co hl3 HX3.out HY3.out).mono ?_
                      rintro e W5 ⟨rfl, hC5⟩
                      have hX5 := row_chg HX2.out.1 hC5 (fun e => e)
                      have hY5 := row_chg HX2.out.2 hC5 (fun e => e)
                      have hx4 := HX4.out.stay hC5 (fun _ _ e => e)
                      have hy4 := HY4.out.stay hC5 (fun _ _ e => e)
                      have hx5 := HX5.out.stay hC5 (fun _ _ e => e)
                      have hy5 := HY5.out.stay hC5 (fun _ _ e => e)
                      clear hcX hcY HX4 HY4 HX5 HY5
                      have hcX := row_cells hX5
                      have hcY := row_cells hY5
                      have HX4 := Lib.hid hx4; have HY4 := Lib.hid hy4; have HX5 := Lib.hid hx5; have HY5 := Lib.hid hy5
                      clear hx4 hy4 hx5 hy5
                      have HX6 := Lib.hid (And.intro hX5 hY5); clear hX5 hY5
                      go_wp2_with fail
                      refine (IH W5 S1 S2 _ _ bo hl4 HX4.out HY4.out).mono ?_
                      rintro e W6 ⟨rfl, hC6⟩
                      have hX6 := row_chg HX6.out.1 hC6 (fun e => e)
                      have hY6 := row_chg HX6.out.2 hC6 (fun e => e)
                      have hx5 := HX5.out.stay hC6 (fun _ _ e => e)
                      have hy5 := HY5.out.stay hC6 (fun _ _ e => e)
                      clear hcX hcY HX5 HY5
                      have hcX := row_cells hX6
                      have hcY := row_cells hY6
                      have HX5 := Lib.hid hx5; have HY5 := Lib.hid hy5
                      clear hx5 hy5 hX6 hY6
                      go_wp2_with fail
                      refine (IH W6 S1 S2 _ _ ot hl5 HX5.out HY5.out).mono ?_
                      rintro e W7 ⟨rfl, hC7⟩
                      clear hcX hcY
                      have r0 := HR0.out
                      go_wp2
                      go_roundg (cs.length - (k + 1))
                      case measure => omega
                      case rel => exact ⟨k + 1, by omega, rfl, ((((hC.trans hC1 (fun _ h _ => h)).trans HM.out (fun _ h _ => h)).trans hC5 (fun _ h _ => h)).trans hC6 (fun _ h _ => h)).trans hC7 (fun _ h _ => h)⟩
    · go_wp2
      go_ret
      exact ⟨rfl, hC⟩
end Go.Proofs.Ytdfnkmiabmjolaa
