/- rehearsallaw08.SyntaxGroups: it returns true for every text and every number, and both read behind the call as before. -/
import Derived.Test.YtdfnkmiabmjolaaK14
import Derived.Test.YtdfnkmiabmjolaaRows
import Derived.ProofKit
import Derived.OpenShut
import Derived.SizedLaws
namespace Go.Proofs.Ytdfnkmiabmjolaa
open Go.RowKit
set_option linter.unusedVariables false
set_option linter.unusedSimpArgs false

/-- A script of one command, as it lies. -/
theorem alone_rep {w : World} {S : Nat → Prop} {v : Value} {k : Int} {n : Bytes} {xs : List Asg} {ws : List (List Part)} {co bo ot : List Lst} {ca : List Cas} {rs : List Rdr}
    (h : Rep w S (.sl 44 2 (Lst.ds [.mk [.mk false [.mk k n xs ws co bo ot ca rs]] []])) [v]) :
    ∃ b1 o1 c1 b2 o2 c2 b3 o3 c3 A1 m1 A2 m2 A3 m3 A4 m4 A5 m5 A6 m6 A7 m7, v = .slice (some ⟨b1, o1, none⟩) 1 c1 ∧ w.cell? ⟨b1, o1, none⟩ = some (.slice (some ⟨b2, o2, none⟩) 1 c2) ∧ w.cell? ⟨b2, o2 + 1, none⟩ = some (.slice (some ⟨b3, o3, none⟩) 1 c3) ∧
      w.cell? ⟨b3, o3, none⟩ = some (.int .i64 k) ∧ w.cell? ⟨b3, o3 + 1, none⟩ = some (.string (bstr n)) ∧ w.cell? ⟨b3, o3 + 2, none⟩ = some (.slice A1 xs.length m1) ∧ w.cell? ⟨b3, o3 + 3, none⟩ = some (.slice A2 ws.length m2) ∧ w.cell? ⟨b3, o3 + 4, none⟩ = some (.slice A3 co.length m3) ∧
      w.cell? ⟨b3, o3 + 5, none⟩ = some (.slice A4 bo.length m4) ∧ w.cell? ⟨b3, o3 + 6, none⟩ = some (.slice A5 ot.length m5) ∧ w.cell? ⟨b3, o3 + 7, none⟩ = some (.slice A6 ca.length m6) ∧ w.cell? ⟨b3, o3 + 8, none⟩ = some (.slice A7 rs.length m7) ∧
      Rep w S (.sl 44 2 (Lst.ds co)) [.slice A3 co.length m3] ∧ Rep w S (.sl 44 2 (Lst.ds bo)) [.slice A4 bo.length m4] ∧ Rep w S (.sl 44 2 (Lst.ds ot)) [.slice A5 ot.length m5] := by
  simp only [Lst.ds_map, List.map_cons, List.map_nil] at h ⊢
  obtain ⟨b1, o1, c1, cs1, rfl, _, _, _, hr1, _, hcs1⟩ := sl_get h (by omega) 0 _ rfl
  obtain ⟨x1, x2, rfl, hp1, _⟩ := lst_rep.1 hr1
  simp only [Pip.ds_map, List.map_cons, List.map_nil] at hp1
  obtain ⟨b2, o2, c2, cs2, rfl, _, _, _, hr2, _, hcs2⟩ := sl_get hp1 (by omega) 0 _ rfl
  obtain ⟨x3, rfl, hp2⟩ := pip_rep.1 hr2
  simp only [Cmd.ds_map, List.map_cons, List.map_nil] at hp2
  obtain ⟨b3, o3, c3, cs3, rfl, _, _, _, hr3, _, hcs3⟩ := sl_get hp2 (by omega) 0 _ rfl
  obtain ⟨y1, y2, y3, y4, y5, y6, y7, rfl, h1, h2, h3, h4, h5, h6, h7⟩ := cmd_rep.1 hr3
  obtain ⟨A1, n1, rfl⟩ := sl_form h1
  obtain ⟨A2, n2, rfl⟩ := sl_form h2
  obtain ⟨A3, n3, rfl⟩ := sl_form h3
  obtain ⟨A4, n4, rfl⟩ := sl_form h4
  obtain ⟨A5, n5, rfl⟩ := sl_form h5
  obtain ⟨A6, n6, rfl⟩ := sl_form h6
  obtain ⟨A7, n7, rfl⟩ := sl_form h7
  simp only [Cas.ds_map, Lst.ds_map, List.length_map] at h1 h2 h3 h4 h5 h6 h7 hcs3
  have g1 := hcs1 0 _ rfl
  have g2 := hcs2 1 _ rfl
  have k0 := hcs3 0 _ rfl
  have k1 := hcs3 1 _ rfl
  have k2 := hcs3 2 _ rfl
  have k3 := hcs3 3 _ rfl
  have k4 := hcs3 4 _ rfl
  have k5 := hcs3 5 _ rfl
  have k6 := hcs3 6 _ rfl
  have k7 := hcs3 7 _ rfl
  have k8 := hcs3 8 _ rfl
  simp only [Nat.zero_mul, Nat.add_zero] at g1 g2 k0 k1 k2 k3 k4 k5 k6 k7 k8
  exact ⟨b1, o1, c1, b2, o2, c2, b3, o3, c3, A1, n1, A2, n2, A3, n3, A4, n4, A5, n5, A6, n6, A7, n7, rfl, g1, g2, k0, k1, k2, k3, k4, k5, k6, k7, k8, h3, h4, h5⟩

theorem groups_text (a b : Bytes) (s : ByteArray) (x y : ByteArray) (hx : x = bstr a) (hy : y = bstr b) : (x ++ s) ++ y = bstr (a ++ s.data.toList ++ b) := by
  have h4 := (bstr_of s).symm
  rw [hx, hy, h4]
  simp only [bstr_append, bstr_toList]

def GroupEnd (pred : List Lst → List Lst → List Lst → Prop) (w : World) (e : Ending) (w' : World) : Prop :=
  ∃ A n c k code, e = .returned (.tuple #[.slice A n c, .int .i64 k, .int .i64 code]) ∧ Chg (fun _ => False) w w' ∧ (code = 63 ∨ (code = 0 ∧ n = 1 ∧ ∃ kk nn xs ws co bo ot ca rs, pred co bo ot ∧ Rep w' (fun _ => True) (.sl 44 2 (Lst.ds [.mk [.mk false [.mk kk nn xs ws co bo ot ca rs]] []])) [.slice A n c]))
theorem parse_group {pred : List Lst → List Lst → List Lst → Prop} (T : Bytes) (w : World) (hT : T.length ≤ 8192) (h : (∃ l, parseF (4 * T.length + 5) 0 T = .err l 63) ∨ ∃ kk nn xs ws co bo ot ca rs, pred co bo ot ∧ parseF (4 * T.length + 5) 0 T = .ok [.mk [.mk false [.mk kk nn xs ws co bo ot ca rs]] []] []) :
    Calls Try.prog 24 #[.string (bstr T)] w (GroupEnd pred w) := by
  have P := Parse_calls (bstr T) w (4 * T.length + 5) (by rw [bstr_size]; omega) (by rw [bstr_size]; exact hT)
  rw [bstr_toList] at P
  rcases h with ⟨l, h⟩ | ⟨kk, nn, xs, ws, co, bo, ot, ca, rs, hp, h⟩
  · rw [h] at P
    refine P.mono ?_
    rintro e w' ⟨hC, rfl, _⟩
    exact ⟨_, _, _, _, _, rfl, hC, .inl rfl⟩
  · rw [h] at P
    refine P.mono ?_
    rintro e w' ⟨hC, A, c, rfl, hO⟩
    exact ⟨_, _, _, _, _, rfl, hC, .inr ⟨rfl, rfl, kk, nn, xs, ws, co, bo, ot, ca, rs, hp, hO.mono (fun _ _ _ => trivial)⟩⟩
theorem group_pick {pred : List Lst → List Lst → List Lst → Prop} {X : Rs (List Lst)} {kk : Int} {nn : Bytes} {xs : List Asg} {ws : List (List Part)} {co bo ot : List Lst} {ca : List Cas} {rs : List Rdr} (h : (∃ l, X = .err l 63) ∨ X = .ok [.mk [.mk false [.mk kk nn xs ws co bo ot ca rs]] []] []) (hp : pred co bo ot) :
    (∃ l, X = .err l 63) ∨ ∃ kk nn xs ws co bo ot ca rs, pred co bo ot ∧ X = .ok [.mk [.mk false [.mk kk nn xs ws co bo ot ca rs]] []] [] := h.imp id (fun h => ⟨kk, nn, xs, ws, co, bo, ot, ca, rs, hp, h⟩)

set_option maxRecDepth 100000 in
set_option maxHeartbeats 8000000 in
theorem syntaxGroups_calls (s : ByteArray) (x : Nat) (w : World) (hx : x ≤ 18446744073709551615) :
    Calls Try.prog 8 #[.string s, .int .u64 x] w fun e w' => e = .returned (.bool true) ∧ Chg (fun _ => False) w w' := by
  by_cases hs : 1500 < s.size
  · have q1 : decide ((1500 : Int) < (s.size : Int)) = true := by simp; omega
    go_enter Try.func8, Try.ntmps8
    go_wp2_with (go_at_call 23; refine (law_awake _).mono ?_; rintro e wa ⟨rfl, hCa⟩)
    go_ret
    exact ⟨rfl, hCa⟩
  · have q1 : decide ((1500 : Int) < (s.size : Int)) = false := by simp; omega
    have HS := Parse_calls s w (4 * s.size + 5) (Nat.le_refl _) (by omega)
    generalize hR : parseF (4 * s.size + 5) 0 s.data.toList = R at HS
    have HR := Lib.hid hR; clear hR
    go_enter Try.func8, Try.ntmps8
    go_wp2_with fail
    refine Calls.mono HS ?_
    clear HS
    rintro e w1 ⟨hC1, hp⟩
    cases R with
    | err left c =>
      obtain ⟨rfl, hle⟩ := hp
      have hne : c ≠ 0 := (nz_all _).parse _ _ _ _ HR.out
      have q5 : (c == 0) = false := by simpa using hne
      have q6 : (c != 0) = true := by simpa using hne
      clear hne
      go_wp2_with (go_at_call 23; refine (law_awake _).mono ?_; rintro e wa ⟨rfl, hCa⟩)
      go_ret
      exact ⟨rfl, hC1.trans hCa (fun _ h _ => h)⟩
    | ok l r =>
      obtain ⟨A1, c1, rfl, hO1⟩ := hp
      by_cases hl0 : l = []
      · subst hl0
        go_wp2_with (go_at_call 23; refine (law_awake _).mono ?_; rintro e wa ⟨rfl, hCa⟩)
        go_ret
        exact ⟨rfl, hC1.trans hCa (fun _ h _ => h)⟩
      · obtain ⟨m, hm, hbody⟩ := parse_body HR.out hl0
        have HM := Lib.hid hm; clear hm
        have HB := Lib.hid hbody; clear hbody
        obtain ⟨l0, l1, rfl⟩ : ∃ l0 l1, l = l0 :: l1 := by cases l with
          | nil => exact absurd rfl hl0
          | cons a b => exact ⟨a, b, rfl⟩
        have hlen : 0 < (l0 :: l1).length := by simp
        generalize hlg : (l0 :: l1) = l at *
        clear hlg hl0
        have q7 : ((l.length : Int) == 0) = false := by rw [beq_eq_false_iff_ne]; omega
        have q7' : (l.length == 0) = false := by rw [beq_eq_false_iff_ne]; omega
        clear hlen
        have cases6 : x % 6 = 0 ∨ x % 6 = 1 ∨ x % 6 = 2 ∨ x % 6 = 3 ∨ x % 6 = 4 ∨ x % 6 = 5 := by omega
        rcases cases6 with h5 | h5 | h5 | h5 | h5 | h5
        · have h6 : ((x : Int) % 6) = 0 := by omega
          have h7 : ((x : Int).tmod 6) = 0 := by rw [Int.tmod_eq_emod_of_nonneg (by omega)]; omega
          clear h5
          have hc1 : ∀ w : World, (Op.stringOp .add (⟨#[123, 10]⟩ : ByteArray) s).run Try.prog w = .ok (.string ((⟨#[123, 10]⟩ : ByteArray) ++ s)) w := fun w => run_string_add_sum w (⟨#[123, 10]⟩ : ByteArray) s (by have h : (⟨#[123, 10]⟩ : ByteArray).size = 2 := rfl; omega)
          have hc2 : ∀ w : World, (Op.stringOp .add ((⟨#[123, 10]⟩ : ByteArray) ++ s) (⟨#[10, 125]⟩ : ByteArray)).run Try.prog w = .ok (.string ((⟨#[123, 10]⟩ : ByteArray) ++ s ++ (⟨#[10, 125]⟩ : ByteArray))) w := fun w => run_string_add_sum w ((⟨#[123, 10]⟩ : ByteArray) ++ s) (⟨#[10, 125]⟩ : ByteArray) (by have h : (⟨#[123, 10]⟩ : ByteArray).size = 2 := rfl; have h' : (⟨#[10, 125]⟩ : ByteArray).size = 2 := rfl; rw [ByteArray.size_append]; omega)
          have HPG : Hid (∀ w' : World, Calls Try.prog 24 #[.string ((⟨#[123, 10]⟩ : ByteArray) ++ s ++ (⟨#[10, 125]⟩ : ByteArray))] w' (GroupEnd (fun _ bo _ => l = bo) w')) := Lib.hid (fun w' => by
            rw [groups_text [123, 10] [10, 125] s (⟨#[123, 10]⟩ : ByteArray) (⟨#[10, 125]⟩ : ByteArray) rfl rfl]
            have hln : ([123, 10] ++ s.data.toList ++ [10, 125]).length = s.size + 2 + 2 := by rw [List.length_append, List.length_append, len_data]; simp; omega
            refine parse_group _ w' (by omega) ?_
            rw [hln]
            have hmm := HM.out
            exact group_pick (pred := fun _ bo _ => l = bo) (by simpa using group0 (n := 4 * (s.size + 2 + 2) + 1) HB.out (by omega)) rfl)
          go_wp2
          generalize hhd : (Obj.cells #[.string ⟨#[123, 10]⟩, .string ⟨#[40]⟩, .string ⟨#[119, 104, 105, 108, 101, 32]⟩, .string ⟨#[105, 102, 32, 120, 10, 116, 104, 101, 110, 32]⟩, .string ⟨#[102, 40, 41, 32, 123, 10]⟩, .string ⟨#[105, 102, 32, 120, 59, 32, 116, 104, 101, 110, 32, 121, 59, 32, 101, 108, 115, 101, 10]⟩] 9) = oa
          generalize htl : (Obj.cells #[.string ⟨#[10, 125]⟩, .string ⟨#[10, 41]⟩, .string ⟨#[10, 100, 111, 32, 120, 10, 100, 111, 110, 101]⟩, .string ⟨#[10, 102, 105]⟩, .string ⟨#[10, 125]⟩, .string ⟨#[10, 102, 105]⟩] 9) = ob
          have hCh := ((Chg.refl (fun _ => False) w1).alloc oa).alloc ob
          have z1 : ((w1.alloc oa).alloc ob).cell? ⟨w1.heap.size, 0, none⟩ = some (.string ⟨#[123, 10]⟩) := by rw [← hhd]; exact row_cells (row_alloc (row_new w1 _) ob) 0
          have z2 : ((w1.alloc oa).alloc ob).cell? ⟨w1.heap.size + 1, 0, none⟩ = some (.string ⟨#[10, 125]⟩) := by
            have := row_cells (row_new (w1.alloc oa) (Obj.cells #[.string ⟨#[10, 125]⟩, .string ⟨#[10, 41]⟩, .string ⟨#[10, 100, 111, 32, 120, 10, 100, 111, 110, 101]⟩, .string ⟨#[10, 102, 105]⟩, .string ⟨#[10, 125]⟩, .string ⟨#[10, 102, 105]⟩] 9)) 0
            rw [World.size_alloc, htl] at this
            exact this
          clear hhd htl
          generalize (w1.alloc oa).alloc ob = wh at *
          go_region_held3 (fun w' => w'.cell? ⟨w1.heap.size, 0, none⟩ = some (.string ⟨#[123, 10]⟩) ∧ w'.cell? ⟨w1.heap.size + 1, 0, none⟩ = some (.string ⟨#[10, 125]⟩)) (first | go_keep | exact HK.out) ((go_at_call 24; refine Calls.mono (HPG.out _) ?_; rintro e w2 ⟨A2, n2, c2, k2, code, rfl, hC2, hres⟩; have HK := Lib.hid (And.intro (hC2.cell z1 (fun e => e)) (hC2.cell z2 (fun e => e)))))
          have hC3 : Chg (fun _ => False) w w2 := (hC1.trans hCh (fun _ h _ => h)).trans (((Chg.refl (fun _ => False) wh).drewN 1).trans hC2 (fun _ h _ => h)) (fun _ h _ => h)
          have hO2 := (hO1.stay hCh (fun _ _ e => e)).stay (((Chg.refl (fun _ => False) wh).drewN 1).trans hC2 (fun _ h _ => h)) (fun _ _ e => e)
          clear hO1 hCh hC2 hC1 z1 z2 HK hc1 hc2 HPG
          rcases hres with rfl | ⟨rfl, rfl, kk, nn, xs, ws, co, bo, ot, ca, rs, hpred, hB⟩
          · go_wp2_with (go_at_call 23; refine (law_awake _).mono ?_; rintro e wa ⟨rfl, hCa⟩)
            go_ret
            exact ⟨rfl, hC3.trans hCa (fun _ h _ => h)⟩
          · obtain rfl := hpred
            obtain ⟨b1, o1, d1, b2, o2, d2, b3, o3, d3, B1, e1, B2, e2, B3, e3, B4, e4, B5, e5, B6, e6, B7, e7, hv, g1, g2, k0', k1', k2', k3', k4', k5', k6', k7', k8', hco, hbo, hot⟩ := alone_rep hB
            simp only [Value.slice.injEq] at hv
            obtain ⟨rfl, _, rfl⟩ := hv
            generalize bstr nn = nb at *
            have hF := hbo
            have hls : ∀ w', Chg (fun _ => False) w2 w' → Calls Try.prog 25 #[.slice B4 l.length e4, .slice A1 l.length c1] w' fun e w'' => e = .returned (.bool true) ∧ Chg (fun _ => False) w' w'' :=
              fun w' hc => lists_same w' _ _ _ _ l (hF.stay hc (fun _ _ e => e)) (hO2.stay hc (fun _ _ e => e))
            have HLS := Lib.hid hls
            clear hls hF hO2 hB hco hbo hot
            go_wp2_with fail
            refine Calls.mono (HLS.out _ ((Chg.refl _ _).alloc _)) ?_
            rintro e w4 ⟨rfl, hC4⟩
            go_wp2_with (go_at_call 23; refine (law_awake _).mono ?_; rintro e wa ⟨rfl, hCa⟩)
            go_ret
            exact ⟨rfl, ((hC3.trans ((Chg.refl (fun _ => False) _).alloc _) (fun _ h _ => h)).trans hC4 (fun _ h _ => h)).trans hCa (fun _ h _ => h)⟩
        · have h6 : ((x : Int) % 6) = 1 := by omega
          have h7 : ((x : Int).tmod 6) = 1 := by rw [Int.tmod_eq_emod_of_nonneg (by omega)]; omega
          clear h5
          have hc1 : ∀ w : World, (Op.stringOp .add (⟨#[40]⟩ : ByteArray) s).run Try.prog w = .ok (.string ((⟨#[40]⟩ : ByteArray) ++ s)) w := fun w => run_string_add_sum w (⟨#[40]⟩ : ByteArray) s (by have h : (⟨#[40]⟩ : ByteArray).size = 1 := rfl; omega)
          have hc2 : ∀ w : World, (Op.stringOp .add ((⟨#[40]⟩ : ByteArray) ++ s) (⟨#[10, 41]⟩ : ByteArray)).run Try.prog w = .ok (.string ((⟨#[40]⟩ : ByteArray) ++ s ++ (⟨#[10, 41]⟩ : ByteArray))) w := fun w => run_string_add_sum w ((⟨#[40]⟩ : ByteArray) ++ s) (⟨#[10, 41]⟩ : ByteArray) (by have h : (⟨#[40]⟩ : ByteArray).size = 1 := rfl; have h' : (⟨#[10, 41]⟩ : ByteArray).size = 2 := rfl; rw [ByteArray.size_append]; omega)
          have HPG : Hid (∀ w' : World, Calls Try.prog 24 #[.string ((⟨#[40]⟩ : ByteArray) ++ s ++ (⟨#[10, 41]⟩ : ByteArray))] w' (GroupEnd (fun _ bo _ => l = bo) w')) := Lib.hid (fun w' => by
            rw [groups_text [40] [10, 41] s (⟨#[40]⟩ : ByteArray) (⟨#[10, 41]⟩ : ByteArray) rfl rfl]
            have hln : ([40] ++ s.data.toList ++ [10, 41]).length = s.size + 1 + 2 := by rw [List.length_append, List.length_append, len_data]; simp; omega
            refine parse_group _ w' (by omega) ?_
            rw [hln]
            have hmm := HM.out
            exact group_pick (pred := fun _ bo _ => l = bo) (by simpa using group1 (n := 4 * (s.size + 1 + 2) + 1) HB.out (by omega)) rfl)
          go_wp2
          generalize hhd : (Obj.cells #[.string ⟨#[123, 10]⟩, .string ⟨#[40]⟩, .string ⟨#[119, 104, 105, 108, 101, 32]⟩, .string ⟨#[105, 102, 32, 120, 10, 116, 104, 101, 110, 32]⟩, .string ⟨#[102, 40, 41, 32, 123, 10]⟩, .string ⟨#[105, 102, 32, 120, 59, 32, 116, 104, 101, 110, 32, 121, 59, 32, 101, 108, 115, 101, 10]⟩] 9) = oa
          generalize htl : (Obj.cells #[.string ⟨#[10, 125]⟩, .string ⟨#[10, 41]⟩, .string ⟨#[10, 100, 111, 32, 120, 10, 100, 111, 110, 101]⟩, .string ⟨#[10, 102, 105]⟩, .string ⟨#[10, 125]⟩, .string ⟨#[10, 102, 105]⟩] 9) = ob
          have hCh := ((Chg.refl (fun _ => False) w1).alloc oa).alloc ob
          have z1 : ((w1.alloc oa).alloc ob).cell? ⟨w1.heap.size, 1, none⟩ = some (.string ⟨#[40]⟩) := by rw [← hhd]; exact row_cells (row_alloc (row_new w1 _) ob) 1
          have z2 : ((w1.alloc oa).alloc ob).cell? ⟨w1.heap.size + 1, 1, none⟩ = some (.string ⟨#[10, 41]⟩) := by
            have := row_cells (row_new (w1.alloc oa) (Obj.cells #[.string ⟨#[10, 125]⟩, .string ⟨#[10, 41]⟩, .string ⟨#[10, 100, 111, 32, 120, 10, 100, 111, 110, 101]⟩, .string ⟨#[10, 102, 105]⟩, .string ⟨#[10, 125]⟩, .string ⟨#[10, 102, 105]⟩] 9)) 1
            rw [World.size_alloc, htl] at this
            exact this
          clear hhd htl
          generalize (w1.alloc oa).alloc ob = wh at *
          go_region_held3 (fun w' => w'.cell? ⟨w1.heap.size, 1, none⟩ = some (.string ⟨#[40]⟩) ∧ w'.cell? ⟨w1.heap.size + 1, 1, none⟩ = some (.string ⟨#[10, 41]⟩)) (first | go_keep | exact HK.out) ((go_at_call 24; refine Calls.mono (HPG.out _) ?_; rintro e w2 ⟨A2, n2, c2, k2, code, rfl, hC2, hres⟩; have HK := Lib.hid (And.intro (hC2.cell z1 (fun e => e)) (hC2.cell z2 (fun e => e)))))
          have hC3 : Chg (fun _ => False) w w2 := (hC1.trans hCh (fun _ h _ => h)).trans (((Chg.refl (fun _ => False) wh).drewN 1).trans hC2 (fun _ h _ => h)) (fun _ h _ => h)
          have hO2 := (hO1.stay hCh (fun _ _ e => e)).stay (((Chg.refl (fun _ => False) wh).drewN 1).trans hC2 (fun _ h _ => h)) (fun _ _ e => e)
          clear hO1 hCh hC2 hC1 z1 z2 HK hc1 hc2 HPG
          rcases hres with rfl | ⟨rfl, rfl, kk, nn, xs, ws, co, bo, ot, ca, rs, hpred, hB⟩
          · go_wp2_with (go_at_call 23; refine (law_awake _).mono ?_; rintro e wa ⟨rfl, hCa⟩)
            go_ret
            exact ⟨rfl, hC3.trans hCa (fun _ h _ => h)⟩
          · obtain rfl := hpred
            obtain ⟨b1, o1, d1, b2, o2, d2, b3, o3, d3, B1, e1, B2, e2, B3, e3, B4, e4, B5, e5, B6, e6, B7, e7, hv, g1, g2, k0', k1', k2', k3', k4', k5', k6', k7', k8', hco, hbo, hot⟩ := alone_rep hB
            simp only [Value.slice.injEq] at hv
            obtain ⟨rfl, _, rfl⟩ := hv
            generalize bstr nn = nb at *
            have hF := hbo
            have hls : ∀ w', Chg (fun _ => False) w2 w' → Calls Try.prog 25 #[.slice B4 l.length e4, .slice A1 l.length c1] w' fun e w'' => e = .returned (.bool true) ∧ Chg (fun _ => False) w' w'' :=
              fun w' hc => lists_same w' _ _ _ _ l (hF.stay hc (fun _ _ e => e)) (hO2.stay hc (fun _ _ e => e))
            have HLS := Lib.hid hls
            clear hls hF hO2 hB hco hbo hot
            go_wp2_with fail
            refine Calls.mono (HLS.out _ ((Chg.refl _ _).alloc _)) ?_
            rintro e w4 ⟨rfl, hC4⟩
            go_wp2_with (go_at_call 23; refine (law_awake _).mono ?_; rintro e wa ⟨rfl, hCa⟩)
            go_ret
            exact ⟨rfl, ((hC3.trans ((Chg.refl (fun _ => False) _).alloc _) (fun _ h _ => h)).trans hC4 (fun _ h _ => h)).trans hCa (fun _ h _ => h)⟩
        · have h6 : ((x : Int) % 6) = 2 := by omega
          have h7 : ((x : Int).tmod 6) = 2 := by rw [Int.tmod_eq_emod_of_nonneg (by omega)]; omega
          clear h5
          have hc1 : ∀ w : World, (Op.stringOp .add (⟨#[119, 104, 105, 108, 101, 32]⟩ : ByteArray) s).run Try.prog w = .ok (.string ((⟨#[119, 104, 105, 108, 101, 32]⟩ : ByteArray) ++ s)) w := fun w => run_string_add_sum w (⟨#[119, 104, 105, 108, 101, 32]⟩ : ByteArray) s (by have h : (⟨#[119, 104, 105, 108, 101, 32]⟩ : ByteArray).size = 6 := rfl; omega)
          have hc2 : ∀ w : World, (Op.stringOp .add ((⟨#[119, 104, 105, 108, 101, 32]⟩ : ByteArray) ++ s) (⟨#[10, 100, 111, 32, 120, 10, 100, 111, 110, 101]⟩ : ByteArray)).run Try.prog w = .ok (.string ((⟨#[119, 104, 105, 108, 101, 32]⟩ : ByteArray) ++ s ++ (⟨#[10, 100, 111, 32, 120, 10, 100, 111, 110, 101]⟩ : ByteArray))) w := fun w => run_string_add_sum w ((⟨#[119, 104, 105, 108, 101, 32]⟩ : ByteArray) ++ s) (⟨#[10, 100, 111, 32, 120, 10, 100, 111, 110, 101]⟩ : ByteArray) (by have h : (⟨#[119, 104, 105, 108, 101, 32]⟩ : ByteArray).size = 6 := rfl; have h' : (⟨#[10, 100, 111, 32, 120, 10, 100, 111, 110, 101]⟩ : ByteArray).size = 10 := rfl; rw [ByteArray.size_append]; omega)
          have HPG : Hid (∀ w' : World, Calls Try.prog 24 #[.string ((⟨#[119, 104, 105, 108, 101, 32]⟩ : ByteArray) ++ s ++ (⟨#[10, 100, 111, 32, 120, 10, 100, 111, 110, 101]⟩ : ByteArray))] w' (GroupEnd (fun co _ _ => l = co) w')) := Lib.hid (fun w' => by
            rw [groups_text [119, 104, 105, 108, 101, 32] [10, 100, 111, 32, 120, 10, 100, 111, 110, 101] s (⟨#[119, 104, 105, 108, 101, 32]⟩ : ByteArray) (⟨#[10, 100, 111, 32, 120, 10, 100, 111, 110, 101]⟩ : ByteArray) rfl rfl]
            have hln : ([119, 104, 105, 108, 101, 32] ++ s.data.toList ++ [10, 100, 111, 32, 120, 10, 100, 111, 110, 101]).length = s.size + 6 + 10 := by rw [List.length_append, List.length_append, len_data]; simp; omega
            refine parse_group _ w' (by omega) ?_
            rw [hln]
            have hmm := HM.out
            exact (group2 (n := 4 * (s.size + 6 + 10) + 1) HB.out (by omega) (by omega)).imp id (fun ⟨b, h⟩ => ⟨5, [], [], [], l, b, [], [], [], rfl, h⟩))
          go_wp2
          generalize hhd : (Obj.cells #[.string ⟨#[123, 10]⟩, .string ⟨#[40]⟩, .string ⟨#[119, 104, 105, 108, 101, 32]⟩, .string ⟨#[105, 102, 32, 120, 10, 116, 104, 101, 110, 32]⟩, .string ⟨#[102, 40, 41, 32, 123, 10]⟩, .string ⟨#[105, 102, 32, 120, 59, 32, 116, 104, 101, 110, 32, 121, 59, 32, 101, 108, 115, 101, 10]⟩] 9) = oa
          generalize htl : (Obj.cells #[.string ⟨#[10, 125]⟩, .string ⟨#[10, 41]⟩, .string ⟨#[10, 100, 111, 32, 120, 10, 100, 111, 110, 101]⟩, .string ⟨#[10, 102, 105]⟩, .string ⟨#[10, 125]⟩, .string ⟨#[10, 102, 105]⟩] 9) = ob
          have hCh := ((Chg.refl (fun _ => False) w1).alloc oa).alloc ob
          have z1 : ((w1.alloc oa).alloc ob).cell? ⟨w1.heap.size, 2, none⟩ = some (.string ⟨#[119, 104, 105, 108, 101, 32]⟩) := by rw [← hhd]; exact row_cells (row_alloc (row_new w1 _) ob) 2
          have z2 : ((w1.alloc oa).alloc ob).cell? ⟨w1.heap.size + 1, 2, none⟩ = some (.string ⟨#[10, 100, 111, 32, 120, 10, 100, 111, 110, 101]⟩) := by
            have := row_cells (row_new (w1.alloc oa) (Obj.cells #[.string ⟨#[10, 125]⟩, .string ⟨#[10, 41]⟩, .string ⟨#[10, 100, 111, 32, 120, 10, 100, 111, 110, 101]⟩, .string ⟨#[10, 102, 105]⟩, .string ⟨#[10, 125]⟩, .string ⟨#[10, 102, 105]⟩] 9)) 2
            rw [World.size_alloc, htl] at this
            exact this
          clear hhd htl
          generalize (w1.alloc oa).alloc ob = wh at *
          go_region_held3 (fun w' => w'.cell? ⟨w1.heap.size, 2, none⟩ = some (.string ⟨#[119, 104, 105, 108, 101, 32]⟩) ∧ w'.cell? ⟨w1.heap.size + 1, 2, none⟩ = some (.string ⟨#[10, 100, 111, 32, 120, 10, 100, 111, 110, 101]⟩)) (first | go_keep | exact HK.out) ((go_at_call 24; refine Calls.mono (HPG.out _) ?_; rintro e w2 ⟨A2, n2, c2, k2, code, rfl, hC2, hres⟩; have HK := Lib.hid (And.intro (hC2.cell z1 (fun e => e)) (hC2.cell z2 (fun e => e)))))
          have hC3 : Chg (fun _ => False) w w2 := (hC1.trans hCh (fun _ h _ => h)).trans (((Chg.refl (fun _ => False) wh).drewN 1).trans hC2 (fun _ h _ => h)) (fun _ h _ => h)
          have hO2 := (hO1.stay hCh (fun _ _ e => e)).stay (((Chg.refl (fun _ => False) wh).drewN 1).trans hC2 (fun _ h _ => h)) (fun _ _ e => e)
          clear hO1 hCh hC2 hC1 z1 z2 HK hc1 hc2 HPG
          rcases hres with rfl | ⟨rfl, rfl, kk, nn, xs, ws, co, bo, ot, ca, rs, hpred, hB⟩
          · go_wp2_with (go_at_call 23; refine (law_awake _).mono ?_; rintro e wa ⟨rfl, hCa⟩)
            go_ret
            exact ⟨rfl, hC3.trans hCa (fun _ h _ => h)⟩
          · obtain rfl := hpred
            obtain ⟨b1, o1, d1, b2, o2, d2, b3, o3, d3, B1, e1, B2, e2, B3, e3, B4, e4, B5, e5, B6, e6, B7, e7, hv, g1, g2, k0', k1', k2', k3', k4', k5', k6', k7', k8', hco, hbo, hot⟩ := alone_rep hB
            simp only [Value.slice.injEq] at hv
            obtain ⟨rfl, _, rfl⟩ := hv
            generalize bstr nn = nb at *
            have hF := hco
            have hls : ∀ w', Chg (fun _ => False) w2 w' → Calls Try.prog 25 #[.slice B3 l.length e3, .slice A1 l.length c1] w' fun e w'' => e = .returned (.bool true) ∧ Chg (fun _ => False) w' w'' :=
              fun w' hc => lists_same w' _ _ _ _ l (hF.stay hc (fun _ _ e => e)) (hO2.stay hc (fun _ _ e => e))
            have HLS := Lib.hid hls
            clear hls hF hO2 hB hco hbo hot
            go_wp2_with fail
            refine Calls.mono (HLS.out _ ((Chg.refl _ _).alloc _)) ?_
            rintro e w4 ⟨rfl, hC4⟩
            go_wp2_with (go_at_call 23; refine (law_awake _).mono ?_; rintro e wa ⟨rfl, hCa⟩)
            go_ret
            exact ⟨rfl, ((hC3.trans ((Chg.refl (fun _ => False) _).alloc _) (fun _ h _ => h)).trans hC4 (fun _ h _ => h)).trans hCa (fun _ h _ => h)⟩
        · have h6 : ((x : Int) % 6) = 3 := by omega
          have h7 : ((x : Int).tmod 6) = 3 := by rw [Int.tmod_eq_emod_of_nonneg (by omega)]; omega
          clear h5
          have hc1 : ∀ w : World, (Op.stringOp .add (⟨#[105, 102, 32, 120, 10, 116, 104, 101, 110, 32]⟩ : ByteArray) s).run Try.prog w = .ok (.string ((⟨#[105, 102, 32, 120, 10, 116, 104, 101, 110, 32]⟩ : ByteArray) ++ s)) w := fun w => run_string_add_sum w (⟨#[105, 102, 32, 120, 10, 116, 104, 101, 110, 32]⟩ : ByteArray) s (by have h : (⟨#[105, 102, 32, 120, 10, 116, 104, 101, 110, 32]⟩ : ByteArray).size = 10 := rfl; omega)
          have hc2 : ∀ w : World, (Op.stringOp .add ((⟨#[105, 102, 32, 120, 10, 116, 104, 101, 110, 32]⟩ : ByteArray) ++ s) (⟨#[10, 102, 105]⟩ : ByteArray)).run Try.prog w = .ok (.string ((⟨#[105, 102, 32, 120, 10, 116, 104, 101, 110, 32]⟩ : ByteArray) ++ s ++ (⟨#[10, 102, 105]⟩ : ByteArray))) w := fun w => run_string_add_sum w ((⟨#[105, 102, 32, 120, 10, 116, 104, 101, 110, 32]⟩ : ByteArray) ++ s) (⟨#[10, 102, 105]⟩ : ByteArray) (by have h : (⟨#[105, 102, 32, 120, 10, 116, 104, 101, 110, 32]⟩ : ByteArray).size = 10 := rfl; have h' : (⟨#[10, 102, 105]⟩ : ByteArray).size = 3 := rfl; rw [ByteArray.size_append]; omega)
          have HPG : Hid (∀ w' : World, Calls Try.prog 24 #[.string ((⟨#[105, 102, 32, 120, 10, 116, 104, 101, 110, 32]⟩ : ByteArray) ++ s ++ (⟨#[10, 102, 105]⟩ : ByteArray))] w' (GroupEnd (fun _ bo _ => l = bo) w')) := Lib.hid (fun w' => by
            rw [groups_text [105, 102, 32, 120, 10, 116, 104, 101, 110, 32] [10, 102, 105] s (⟨#[105, 102, 32, 120, 10, 116, 104, 101, 110, 32]⟩ : ByteArray) (⟨#[10, 102, 105]⟩ : ByteArray) rfl rfl]
            have hln : ([105, 102, 32, 120, 10, 116, 104, 101, 110, 32] ++ s.data.toList ++ [10, 102, 105]).length = s.size + 10 + 3 := by rw [List.length_append, List.length_append, len_data]; simp; omega
            refine parse_group _ w' (by omega) ?_
            rw [hln]
            have hmm := HM.out
            exact (group3 (n := 4 * (s.size + 10 + 3) + 1) HB.out (by omega) (by omega)).imp id (fun ⟨b, h⟩ => ⟨4, [], [], [], b, l, [], [], [], rfl, h⟩))
          go_wp2
          generalize hhd : (Obj.cells #[.string ⟨#[123, 10]⟩, .string ⟨#[40]⟩, .string ⟨#[119, 104, 105, 108, 101, 32]⟩, .string ⟨#[105, 102, 32, 120, 10, 116, 104, 101, 110, 32]⟩, .string ⟨#[102, 40, 41, 32, 123, 10]⟩, .string ⟨#[105, 102, 32, 120, 59, 32, 116, 104, 101, 110, 32, 121, 59, 32, 101, 108, 115, 101, 10]⟩] 9) = oa
          generalize htl : (Obj.cells #[.string ⟨#[10, 125]⟩, .string ⟨#[10, 41]⟩, .string ⟨#[10, 100, 111, 32, 120, 10, 100, 111, 110, 101]⟩, .string ⟨#[10, 102, 105]⟩, .string ⟨#[10, 125]⟩, .string ⟨#[10, 102, 105]⟩] 9) = ob
          have hCh := ((Chg.refl (fun _ => False) w1).alloc oa).alloc ob
          have z1 : ((w1.alloc oa).alloc ob).cell? ⟨w1.heap.size, 3, none⟩ = some (.string ⟨#[105, 102, 32, 120, 10, 116, 104, 101, 110, 32]⟩) := by rw [← hhd]; exact row_cells (row_alloc (row_new w1 _) ob) 3
          have z2 : ((w1.alloc oa).alloc ob).cell? ⟨w1.heap.size + 1, 3, none⟩ = some (.string ⟨#[10, 102, 105]⟩) := by
            have := row_cells (row_new (w1.alloc oa) (Obj.cells #[.string ⟨#[10, 125]⟩, .string ⟨#[10, 41]⟩, .string ⟨#[10, 100, 111, 32, 120, 10, 100, 111, 110, 101]⟩, .string ⟨#[10, 102, 105]⟩, .string ⟨#[10, 125]⟩, .string ⟨#[10, 102, 105]⟩] 9)) 3
            rw [World.size_alloc, htl] at this
            exact this
          clear hhd htl
          generalize (w1.alloc oa).alloc ob = wh at *
          go_region_held3 (fun w' => w'.cell? ⟨w1.heap.size, 3, none⟩ = some (.string ⟨#[105, 102, 32, 120, 10, 116, 104, 101, 110, 32]⟩) ∧ w'.cell? ⟨w1.heap.size + 1, 3, none⟩ = some (.string ⟨#[10, 102, 105]⟩)) (first | go_keep | exact HK.out) ((go_at_call 24; refine Calls.mono (HPG.out _) ?_; rintro e w2 ⟨A2, n2, c2, k2, code, rfl, hC2, hres⟩; have HK := Lib.hid (And.intro (hC2.cell z1 (fun e => e)) (hC2.cell z2 (fun e => e)))))
          have hC3 : Chg (fun _ => False) w w2 := (hC1.trans hCh (fun _ h _ => h)).trans (((Chg.refl (fun _ => False) wh).drewN 1).trans hC2 (fun _ h _ => h)) (fun _ h _ => h)
          have hO2 := (hO1.stay hCh (fun _ _ e => e)).stay (((Chg.refl (fun _ => False) wh).drewN 1).trans hC2 (fun _ h _ => h)) (fun _ _ e => e)
          clear hO1 hCh hC2 hC1 z1 z2 HK hc1 hc2 HPG
          rcases hres with rfl | ⟨rfl, rfl, kk, nn, xs, ws, co, bo, ot, ca, rs, hpred, hB⟩
          · go_wp2_with (go_at_call 23; refine (law_awake _).mono ?_; rintro e wa ⟨rfl, hCa⟩)
            go_ret
            exact ⟨rfl, hC3.trans hCa (fun _ h _ => h)⟩
          · obtain rfl := hpred
            obtain ⟨b1, o1, d1, b2, o2, d2, b3, o3, d3, B1, e1, B2, e2, B3, e3, B4, e4, B5, e5, B6, e6, B7, e7, hv, g1, g2, k0', k1', k2', k3', k4', k5', k6', k7', k8', hco, hbo, hot⟩ := alone_rep hB
            simp only [Value.slice.injEq] at hv
            obtain ⟨rfl, _, rfl⟩ := hv
            generalize bstr nn = nb at *
            have hF := hbo
            have hls : ∀ w', Chg (fun _ => False) w2 w' → Calls Try.prog 25 #[.slice B4 l.length e4, .slice A1 l.length c1] w' fun e w'' => e = .returned (.bool true) ∧ Chg (fun _ => False) w' w'' :=
              fun w' hc => lists_same w' _ _ _ _ l (hF.stay hc (fun _ _ e => e)) (hO2.stay hc (fun _ _ e => e))
            have HLS := Lib.hid hls
            clear hls hF hO2 hB hco hbo hot
            go_wp2_with fail
            refine Calls.mono (HLS.out _ ((Chg.refl _ _).alloc _)) ?_
            rintro e w4 ⟨rfl, hC4⟩
            go_wp2_with (go_at_call 23; refine (law_awake _).mono ?_; rintro e wa ⟨rfl, hCa⟩)
            go_ret
            exact ⟨rfl, ((hC3.trans ((Chg.refl (fun _ => False) _).alloc _) (fun _ h _ => h)).trans hC4 (fun _ h _ => h)).trans hCa (fun _ h _ => h)⟩
        · have h6 : ((x : Int) % 6) = 4 := by omega
          have h7 : ((x : Int).tmod 6) = 4 := by rw [Int.tmod_eq_emod_of_nonneg (by omega)]; omega
          clear h5
          have hc1 : ∀ w : World, (Op.stringOp .add (⟨#[102, 40, 41, 32, 123, 10]⟩ : ByteArray) s).run Try.prog w = .ok (.string ((⟨#[102, 40, 41, 32, 123, 10]⟩ : ByteArray) ++ s)) w := fun w => run_string_add_sum w (⟨#[102, 40, 41, 32, 123, 10]⟩ : ByteArray) s (by have h : (⟨#[102, 40, 41, 32, 123, 10]⟩ : ByteArray).size = 6 := rfl; omega)
          have hc2 : ∀ w : World, (Op.stringOp .add ((⟨#[102, 40, 41, 32, 123, 10]⟩ : ByteArray) ++ s) (⟨#[10, 125]⟩ : ByteArray)).run Try.prog w = .ok (.string ((⟨#[102, 40, 41, 32, 123, 10]⟩ : ByteArray) ++ s ++ (⟨#[10, 125]⟩ : ByteArray))) w := fun w => run_string_add_sum w ((⟨#[102, 40, 41, 32, 123, 10]⟩ : ByteArray) ++ s) (⟨#[10, 125]⟩ : ByteArray) (by have h : (⟨#[102, 40, 41, 32, 123, 10]⟩ : ByteArray).size = 6 := rfl; have h' : (⟨#[10, 125]⟩ : ByteArray).size = 2 := rfl; rw [ByteArray.size_append]; omega)
          have HPG : Hid (∀ w' : World, Calls Try.prog 24 #[.string ((⟨#[102, 40, 41, 32, 123, 10]⟩ : ByteArray) ++ s ++ (⟨#[10, 125]⟩ : ByteArray))] w' (GroupEnd (fun _ bo _ => [Lst.mk [.mk false [.mk 2 [] [] [] [] l [] [] []]] []] = bo) w')) := Lib.hid (fun w' => by
            rw [groups_text [102, 40, 41, 32, 123, 10] [10, 125] s (⟨#[102, 40, 41, 32, 123, 10]⟩ : ByteArray) (⟨#[10, 125]⟩ : ByteArray) rfl rfl]
            have hln : ([102, 40, 41, 32, 123, 10] ++ s.data.toList ++ [10, 125]).length = s.size + 6 + 2 := by rw [List.length_append, List.length_append, len_data]; simp; omega
            refine parse_group _ w' (by omega) ?_
            rw [hln]
            have hmm := HM.out
            exact (group4 (n := 4 * (s.size + 6 + 2)) HB.out (by omega)).imp id (fun h => ⟨9, [102], [], [], [], _, [], [], [], rfl, h⟩))
          go_wp2
          generalize hhd : (Obj.cells #[.string ⟨#[123, 10]⟩, .string ⟨#[40]⟩, .string ⟨#[119, 104, 105, 108, 101, 32]⟩, .string ⟨#[105, 102, 32, 120, 10, 116, 104, 101, 110, 32]⟩, .string ⟨#[102, 40, 41, 32, 123, 10]⟩, .string ⟨#[105, 102, 32, 120, 59, 32, 116, 104, 101, 110, 32, 121, 59, 32, 101, 108, 115, 101, 10]⟩] 9) = oa
          generalize htl : (Obj.cells #[.string ⟨#[10, 125]⟩, .string ⟨#[10, 41]⟩, .string ⟨#[10, 100, 111, 32, 120, 10, 100, 111, 110, 101]⟩, .string ⟨#[10, 102, 105]⟩, .string ⟨#[10, 125]⟩, .string ⟨#[10, 102, 105]⟩] 9) = ob
          have hCh := ((Chg.refl (fun _ => False) w1).alloc oa).alloc ob
          have z1 : ((w1.alloc oa).alloc ob).cell? ⟨w1.heap.size, 4, none⟩ = some (.string ⟨#[102, 40, 41, 32, 123, 10]⟩) := by rw [← hhd]; exact row_cells (row_alloc (row_new w1 _) ob) 4
          have z2 : ((w1.alloc oa).alloc ob).cell? ⟨w1.heap.size + 1, 4, none⟩ = some (.string ⟨#[10, 125]⟩) := by
            have := row_cells (row_new (w1.alloc oa) (Obj.cells #[.string ⟨#[10, 125]⟩, .string ⟨#[10, 41]⟩, .string ⟨#[10, 100, 111, 32, 120, 10, 100, 111, 110, 101]⟩, .string ⟨#[10, 102, 105]⟩, .string ⟨#[10, 125]⟩, .string ⟨#[10, 102, 105]⟩] 9)) 4
            rw [World.size_alloc, htl] at this
            exact this
          clear hhd htl
          generalize (w1.alloc oa).alloc ob = wh at *
          go_region_held3 (fun w' => w'.cell? ⟨w1.heap.size, 4, none⟩ = some (.string ⟨#[102, 40, 41, 32, 123, 10]⟩) ∧ w'.cell? ⟨w1.heap.size + 1, 4, none⟩ = some (.string ⟨#[10, 125]⟩)) (first | go_keep | exact HK.out) ((go_at_call 24; refine Calls.mono (HPG.out _) ?_; rintro e w2 ⟨A2, n2, c2, k2, code, rfl, hC2, hres⟩; have HK := Lib.hid (And.intro (hC2.cell z1 (fun e => e)) (hC2.cell z2 (fun e => e)))))
          have hC3 : Chg (fun _ => False) w w2 := (hC1.trans hCh (fun _ h _ => h)).trans (((Chg.refl (fun _ => False) wh).drewN 1).trans hC2 (fun _ h _ => h)) (fun _ h _ => h)
          have hO2 := (hO1.stay hCh (fun _ _ e => e)).stay (((Chg.refl (fun _ => False) wh).drewN 1).trans hC2 (fun _ h _ => h)) (fun _ _ e => e)
          clear hO1 hCh hC2 hC1 z1 z2 HK hc1 hc2 HPG
          rcases hres with rfl | ⟨rfl, rfl, kk, nn, xs, ws, co, bo, ot, ca, rs, hpred, hB⟩
          · go_wp2_with (go_at_call 23; refine (law_awake _).mono ?_; rintro e wa ⟨rfl, hCa⟩)
            go_ret
            exact ⟨rfl, hC3.trans hCa (fun _ h _ => h)⟩
          · obtain rfl := hpred
            obtain ⟨b1, o1, d1, b2, o2, d2, b3, o3, d3, B1, e1, B2, e2, B3, e3, B4, e4, B5, e5, B6, e6, B7, e7, hv, g1, g2, k0', k1', k2', k3', k4', k5', k6', k7', k8', hco, hbo, hot⟩ := alone_rep hB
            simp only [Value.slice.injEq] at hv
            obtain ⟨rfl, _, rfl⟩ := hv
            generalize bstr nn = nb at *
            (obtain ⟨b4, o4, f1, b5, o5, f2, b6, o6, f3, C1, i1, C2, i2, C3, i3, C4, i4, C5, i5, C6, i6, C7, i7, hv2, j1, j2, j3, j4, j5, j6, j7, j8, j9, ja, jb, _, hF, _⟩ := alone_rep hbo; simp only [List.length_cons, List.length_nil, Nat.zero_add, Value.slice.injEq] at hv2 k5'; obtain ⟨rfl, _, rfl⟩ := hv2; have jj1 := fun O => ((Chg.refl (fun _ => False) w2).alloc O).cell j1 (fun e => e); have jj2 := fun O => ((Chg.refl (fun _ => False) w2).alloc O).cell j2 (fun e => e); have jj8 := fun O => ((Chg.refl (fun _ => False) w2).alloc O).cell j8 (fun e => e))
            have hls : ∀ w', Chg (fun _ => False) w2 w' → Calls Try.prog 25 #[.slice C4 l.length i4, .slice A1 l.length c1] w' fun e w'' => e = .returned (.bool true) ∧ Chg (fun _ => False) w' w'' :=
              fun w' hc => lists_same w' _ _ _ _ l (hF.stay hc (fun _ _ e => e)) (hO2.stay hc (fun _ _ e => e))
            have HLS := Lib.hid hls
            clear hls hF hO2 hB hco hbo hot
            go_wp2_with fail
            refine Calls.mono (HLS.out _ ((Chg.refl _ _).alloc _)) ?_
            rintro e w4 ⟨rfl, hC4⟩
            go_wp2_with (go_at_call 23; refine (law_awake _).mono ?_; rintro e wa ⟨rfl, hCa⟩)
            go_ret
            exact ⟨rfl, ((hC3.trans ((Chg.refl (fun _ => False) _).alloc _) (fun _ h _ => h)).trans hC4 (fun _ h _ => h)).trans hCa (fun _ h _ => h)⟩
        · have h6 : ((x : Int) % 6) = 5 := by omega
          have h7 : ((x : Int).tmod 6) = 5 := by rw [Int.tmod_eq_emod_of_nonneg (by omega)]; omega
          clear h5
          have hc1 : ∀ w : World, (Op.stringOp .add (⟨#[105, 102, 32, 120, 59, 32, 116, 104, 101, 110, 32, 121, 59, 32, 101, 108, 115, 101, 10]⟩ : ByteArray) s).run Try.prog w = .ok (.string ((⟨#[105, 102, 32, 120, 59, 32, 116, 104, 101, 110, 32, 121, 59, 32, 101, 108, 115, 101, 10]⟩ : ByteArray) ++ s)) w := fun w => run_string_add_sum w (⟨#[105, 102, 32, 120, 59, 32, 116, 104, 101, 110, 32, 121, 59, 32, 101, 108, 115, 101, 10]⟩ : ByteArray) s (by have h : (⟨#[105, 102, 32, 120, 59, 32, 116, 104, 101, 110, 32, 121, 59, 32, 101, 108, 115, 101, 10]⟩ : ByteArray).size = 19 := rfl; omega)
          have hc2 : ∀ w : World, (Op.stringOp .add ((⟨#[105, 102, 32, 120, 59, 32, 116, 104, 101, 110, 32, 121, 59, 32, 101, 108, 115, 101, 10]⟩ : ByteArray) ++ s) (⟨#[10, 102, 105]⟩ : ByteArray)).run Try.prog w = .ok (.string ((⟨#[105, 102, 32, 120, 59, 32, 116, 104, 101, 110, 32, 121, 59, 32, 101, 108, 115, 101, 10]⟩ : ByteArray) ++ s ++ (⟨#[10, 102, 105]⟩ : ByteArray))) w := fun w => run_string_add_sum w ((⟨#[105, 102, 32, 120, 59, 32, 116, 104, 101, 110, 32, 121, 59, 32, 101, 108, 115, 101, 10]⟩ : ByteArray) ++ s) (⟨#[10, 102, 105]⟩ : ByteArray) (by have h : (⟨#[105, 102, 32, 120, 59, 32, 116, 104, 101, 110, 32, 121, 59, 32, 101, 108, 115, 101, 10]⟩ : ByteArray).size = 19 := rfl; have h' : (⟨#[10, 102, 105]⟩ : ByteArray).size = 3 := rfl; rw [ByteArray.size_append]; omega)
          have HPG : Hid (∀ w' : World, Calls Try.prog 24 #[.string ((⟨#[105, 102, 32, 120, 59, 32, 116, 104, 101, 110, 32, 121, 59, 32, 101, 108, 115, 101, 10]⟩ : ByteArray) ++ s ++ (⟨#[10, 102, 105]⟩ : ByteArray))] w' (GroupEnd (fun _ _ ot => l = ot) w')) := Lib.hid (fun w' => by
            rw [groups_text [105, 102, 32, 120, 59, 32, 116, 104, 101, 110, 32, 121, 59, 32, 101, 108, 115, 101, 10] [10, 102, 105] s (⟨#[105, 102, 32, 120, 59, 32, 116, 104, 101, 110, 32, 121, 59, 32, 101, 108, 115, 101, 10]⟩ : ByteArray) (⟨#[10, 102, 105]⟩ : ByteArray) rfl rfl]
            have hln : ([105, 102, 32, 120, 59, 32, 116, 104, 101, 110, 32, 121, 59, 32, 101, 108, 115, 101, 10] ++ s.data.toList ++ [10, 102, 105]).length = s.size + 19 + 3 := by rw [List.length_append, List.length_append, len_data]; simp; omega
            refine parse_group _ w' (by omega) ?_
            rw [hln]
            have hmm := HM.out
            exact (group5 (n := 4 * (s.size + 19 + 3) + 1) HB.out (by omega) (by omega)).imp id (fun ⟨b, c, h⟩ => ⟨4, [], [], [], b, c, l, [], [], rfl, h⟩))
          go_wp2
          generalize hhd : (Obj.cells #[.string ⟨#[123, 10]⟩, .string ⟨#[40]⟩, .string ⟨#[119, 104, 105, 108, 101, 32]⟩, .string ⟨#[105, 102, 32, 120, 10, 116, 104, 101, 110, 32]⟩, .string ⟨#[102, 40, 41, 32, 123, 10]⟩, .string ⟨#[105, 102, 32, 120, 59, 32, 116, 104, 101, 110, 32, 121, 59, 32, 101, 108, 115, 101, 10]⟩] 9) = oa
          generalize htl : (Obj.cells #[.string ⟨#[10, 125]⟩, .string ⟨#[10, 41]⟩, .string ⟨#[10, 100, 111, 32, 120, 10, 100, 111, 110, 101]⟩, .string ⟨#[10, 102, 105]⟩, .string ⟨#[10, 125]⟩, .string ⟨#[10, 102, 105]⟩] 9) = ob
          have hCh := ((Chg.refl (fun _ => False) w1).alloc oa).alloc ob
          have z1 : ((w1.alloc oa).alloc ob).cell? ⟨w1.heap.size, 5, none⟩ = some (.string ⟨#[105, 102, 32, 120, 59, 32, 116, 104, 101, 110, 32, 121, 59, 32, 101, 108, 115, 101, 10]⟩) := by rw [← hhd]; exact row_cells (row_alloc (row_new w1 _) ob) 5
          have z2 : ((w1.alloc oa).alloc ob).cell? ⟨w1.heap.size + 1, 5, none⟩ = some (.string ⟨#[10, 102, 105]⟩) := by
            have := row_cells (row_new (w1.alloc oa) (Obj.cells #[.string ⟨#[10, 125]⟩, .string ⟨#[10, 41]⟩, .string ⟨#[10, 100, 111, 32, 120, 10, 100, 111, 110, 101]⟩, .string ⟨#[10, 102, 105]⟩, .string ⟨#[10, 125]⟩, .string ⟨#[10, 102, 105]⟩] 9)) 5
            rw [World.size_alloc, htl] at this
            exact this
          clear hhd htl
          generalize (w1.alloc oa).alloc ob = wh at *
          go_region_held3 (fun w' => w'.cell? ⟨w1.heap.size, 5, none⟩ = some (.string ⟨#[105, 102, 32, 120, 59, 32, 116, 104, 101, 110, 32, 121, 59, 32, 101, 108, 115, 101, 10]⟩) ∧ w'.cell? ⟨w1.heap.size + 1, 5, none⟩ = some (.string ⟨#[10, 102, 105]⟩)) (first | go_keep | exact HK.out) ((go_at_call 24; refine Calls.mono (HPG.out _) ?_; rintro e w2 ⟨A2, n2, c2, k2, code, rfl, hC2, hres⟩; have HK := Lib.hid (And.intro (hC2.cell z1 (fun e => e)) (hC2.cell z2 (fun e => e)))))
          have hC3 : Chg (fun _ => False) w w2 := (hC1.trans hCh (fun _ h _ => h)).trans (((Chg.refl (fun _ => False) wh).drewN 1).trans hC2 (fun _ h _ => h)) (fun _ h _ => h)
          have hO2 := (hO1.stay hCh (fun _ _ e => e)).stay (((Chg.refl (fun _ => False) wh).drewN 1).trans hC2 (fun _ h _ => h)) (fun _ _ e => e)
          clear hO1 hCh hC2 hC1 z1 z2 HK hc1 hc2 HPG
          rcases hres with rfl | ⟨rfl, rfl, kk, nn, xs, ws, co, bo, ot, ca, rs, hpred, hB⟩
          · go_wp2_with (go_at_call 23; refine (law_awake _).mono ?_; rintro e wa ⟨rfl, hCa⟩)
            go_ret
            exact ⟨rfl, hC3.trans hCa (fun _ h _ => h)⟩
          · obtain rfl := hpred
            obtain ⟨b1, o1, d1, b2, o2, d2, b3, o3, d3, B1, e1, B2, e2, B3, e3, B4, e4, B5, e5, B6, e6, B7, e7, hv, g1, g2, k0', k1', k2', k3', k4', k5', k6', k7', k8', hco, hbo, hot⟩ := alone_rep hB
            simp only [Value.slice.injEq] at hv
            obtain ⟨rfl, _, rfl⟩ := hv
            generalize bstr nn = nb at *
            have hF := hot
            have hls : ∀ w', Chg (fun _ => False) w2 w' → Calls Try.prog 25 #[.slice B5 l.length e5, .slice A1 l.length c1] w' fun e w'' => e = .returned (.bool true) ∧ Chg (fun _ => False) w' w'' :=
              fun w' hc => lists_same w' _ _ _ _ l (hF.stay hc (fun _ _ e => e)) (hO2.stay hc (fun _ _ e => e))
            have HLS := Lib.hid hls
            clear hls hF hO2 hB hco hbo hot
            go_wp2_with fail
            refine Calls.mono (HLS.out _ ((Chg.refl _ _).alloc _)) ?_
            rintro e w4 ⟨rfl, hC4⟩
            go_wp2_with (go_at_call 23; refine (law_awake _).mono ?_; rintro e wa ⟨rfl, hCa⟩)
            go_ret
            exact ⟨rfl, ((hC3.trans ((Chg.refl (fun _ => False) _).alloc _) (fun _ h _ => h)).trans hC4 (fun _ h _ => h)).trans hCa (fun _ h _ => h)⟩

namespace fnSyntaxGroups
open Go.ChangeShapes Go.WideShapes Go.ChangeAt
open Go.ChangeMaps (open_string shut_string)
theorem own : ownKnob Try.prog.godebug = none := by kernel_rfl

set_option maxRecDepth 100000 in
theorem lifted (os : Os) (started : os.Started) (H : Type) (enc : TypeId × Value → H) :
    ReturnsInHanded {} Try.checked os 8 .any (Rows.syntaxGroupsSpec.pre6 enc Try.prog Try.f8 Rows.syntaxGroupsRow.domain false) (Rows.syntaxGroupsSpec.post enc Try.prog Try.f8 false true false false) := by
  refine returnsInHanded_of_change_sized (C := Try.checked) own started (by kernel_rfl) Try.func8
    (ChangeSpec.witness6 (enc := enc) (C := Try.checked) false ⟨#[], #[.string ⟨#[]⟩, .int .u64 0], []⟩ 8 (by kernel_rfl) (by kernel_rfl) (by kernel_rfl) (by kernel_rfl)) ?_
  intro W base args ds gs before hval0 hW _ hsz0 _
  have hsz : (DataW.weightsEach Try.prog (Try.f8.params.toList ++ Rows.syntaxGroupsSpec.plain.varTypes Try.prog) (ds ++ gs)).all (· ≤ reachBytes) = true := hsz0
  clear hsz0
  have hval : ∀ (j : Nat) t v, Try.f8.params[j]? = some t → args[j]? = some v → Value.okWide Try.prog W .any base t v := hval0
  have hW' := hW
  obtain ⟨p, q, hA0, hV, rfl, _, _⟩ := hW
  have hA : DataW.TrodAll enc Try.prog W 0 (fun _ => true) true Try.f8.params.toList args.toList ds p := hA0
  rw [Try.params8] at hA hval hsz
  obtain ⟨v0, vs0, d0, ds0, p0, q0, hargs, rfl, rfl, h0, r0⟩ := trodAll_cons hA
  obtain ⟨v1, vs1, d1, ds1, p1, q1, hargs1, rfl, rfl, h1, r1⟩ := trodAll_cons r0
  obtain ⟨rfl, rfl, rfl⟩ := trodAll_nil r1
  obtain rfl : args = #[v0, v1] := by cases args; simp_all
  obtain ⟨rfl, rfl⟩ := trodVars_none hV
  obtain ⟨s, rfl, rfl, rfl, hs0⟩ := open_string Try.underlying9 (hval 0 9 v0 rfl rfl) h0
  have hz0 : s.size ≤ 140737488355328 := by
    have h1 := sized_string hsz (j := 0) (t := 9) (bytes := s.data.toList) rfl rfl
    have h2 := reachBytes_lt
    rw [len_data] at h1
    omega
  obtain ⟨x, rfl, rfl, rfl, wx⟩ := open_int Try.underlying22 (hval 1 22 v1 rfl rfl) h1
  have hx : 0 ≤ x ∧ x ≤ 18446744073709551615 := by simpa [Lit.wf, IntKind.min, IntKind.max, IntKind.signed, IntKind.bits] using wx
  obtain ⟨n, rfl⟩ : ∃ n : Nat, x = n := ⟨x.toNat, by omega⟩
  clear hA0
  simp only [List.append_nil] at hW'
  refine (syntaxGroups_calls s n W (by omega)).mono fun e W' ⟨he, hg⟩ => ?_
  subst he
  exact ⟨_, rfl, _, _, _, [], [], [], hW', trodAll_cons_mk (shut_bool Try.underlying4 _) trodAll_mk0, trodAll_cons_mk (shut_string Try.underlying9 hs0) (trodAll_cons_mk (shut_int Try.underlying22 wx) trodAll_mk0), rfl, hg.below.frame _, fun h => by cases h⟩
end fnSyntaxGroups
set_option maxRecDepth 100000 in
theorem syntaxGroups_proved : Rows.SyntaxGroupsSaid :=
  OpenClaim.holds_of_wide 8 Try.f8 rfl rfl rfl rfl rfl rfl rfl ⟨rfl, rfl, rfl, rfl, rfl⟩ rfl rfl rfl rfl rfl (by kernel_rfl) Try.func8 (by kernel_rfl)
    (of_decide_eq_true (by kernel_rfl)) (by unfold Func.isWrapper; first | (rw [if_pos (by decide +kernel)]; kernel_rfl) | (rw [if_neg (by decide +kernel)]; exact ⟨rfl, rfl⟩))
    (fun os started H enc _ => fnSyntaxGroups.lifted os started H enc)
#print axioms syntaxGroups_proved
end Go.Proofs.Ytdfnkmiabmjolaa
