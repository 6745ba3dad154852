/- rehearsallaw08.SyntaxLists: it returns true for every list of signs, and it reads behind the call as before. -/
import Derived.Test.YtdfnkmiabmjolaaK14
import Derived.Test.YtdfnkmiabmjolaaRows
import Derived.ProofKit
import Derived.OpenShut
import Derived.SizedLaws
import Derived.WideKeyArgs
import Derived.ChangeOld
namespace Go.Proofs.Ytdfnkmiabmjolaa
open Go.RowKit
set_option linter.unusedVariables false
set_option linter.unusedSimpArgs false

theorem tailB_snoc : ∀ (l : List Nat) (k : Nat), tailB (l ++ [k]) = tailB l ++ (sepB k ++ [97])
  | [], k => by simp [tailB]
  | j :: l, k => by simp [tailB, tailB_snoc l k]
theorem tailB_len : ∀ (l : List Nat), (∀ k ∈ l, k < 5) → (tailB l).length ≤ 5 * l.length
  | [], _ => by simp [tailB]
  | k :: l, h => by
    have ih := tailB_len l (fun j hj => h j (by simp [hj]))
    rcases sep_cases k (h k (by simp)) with rfl | rfl | rfl | rfl | rfl <;> simp [tailB, sepB] <;> omega
theorem addr_add2 (b o j : Nat) : (⟨b, o, none⟩ : Addr).add j = ⟨b, o + j, none⟩ := by unfold Addr.add; split <;> simp_all
/-- The signs' numbers. -/
def numsOf (xs : List UInt8) : List Nat := xs.map fun c => c.toNat % 5
theorem nums_lt (xs : List UInt8) : ∀ k ∈ numsOf xs, k < 5 := by
  intro k hk
  obtain ⟨c, _, rfl⟩ := List.mem_map.1 hk
  omega
def bytD (xs : List UInt8) : List D := xs.map fun c => .int .u8 c.toNat
theorem nums_take (xs : List UInt8) (k : Nat) (h : k < xs.length) : (numsOf xs).take (k + 1) = (numsOf xs).take k ++ [xs[k].toNat % 5] := by
  have h' : k < (numsOf xs).length := by simp [numsOf, h]
  rw [List.take_succ_eq_append_getElem h']
  simp [numsOf]
theorem text_next (l : List Nat) (k : Nat) (b : ByteArray) (h : b = bstr (sepB k)) : bstr (97 :: tailB l) ++ b ++ (⟨#[97]⟩ : ByteArray) = bstr (97 :: tailB (l ++ [k])) := by
  have h1 : (⟨#[97]⟩ : ByteArray) = bstr [97] := rfl
  rw [h, h1, bstr_append, bstr_append, tailB_snoc]
  simp

set_option maxRecDepth 100000 in
set_option maxHeartbeats 4000000 in
theorem syntaxLists_calls (xs : List UInt8) (v : Value) (S : Nat → Prop) (w : World) (hv : Rep w S (.sl 5 1 (bytD xs)) [v]) :
    Calls Try.prog 9 #[v] w fun e w' => e = .returned (.bool true) ∧ Chg (fun _ => False) w w' := by
  have hbl : (bytD xs).length = xs.length := by simp [bytD]
  obtain ⟨A, c, rfl⟩ := sl_form hv
  rw [hbl] at hv ⊢
  have hmax : xs.length ≤ maxLen := by
    obtain ⟨_, _, _, h1, h2, h3, _⟩ := hv
    rw [hbl] at h2
    omega
  unfold maxLen at hmax
  by_cases hs : 200 < xs.length
  · have q1 : decide ((200 : Int) < (xs.length : Int)) = true := by simp; omega
    clear hv hbl
    go_enter Try.func9, Try.ntmps9
    go_wp2_with (go_at_call 23; refine (law_awake _).mono ?_; rintro e wa ⟨rfl, hCa⟩)
    go_ret
    exact ⟨rfl, hCa⟩
  · have q1 : decide ((200 : Int) < (xs.length : Int)) = false := by simp; omega
    have HV := Lib.hid hv
    have HBL := Lib.hid hbl
    clear hv hbl
    go_enter Try.func9, Try.ntmps9
    go_wp2
    go_loopg [3, 4, 5, 6, 7] xs.length (fun rk sv nv pv av iv wr => ∃ (k n p : Nat) (t : ByteArray), k + rk = xs.length ∧ iv = .int .i64 k ∧ nv = .int .i64 n ∧ pv = .int .i64 p ∧ av = .int .i64 ((k + 1 : Nat) : Int) ∧ sv = .string t ∧ n ≤ k + 1 ∧ p ≤ k + 1 ∧ t.size ≤ 5 * k + 1 ∧
      Hid (n = ((numsOf xs).take k).countP (· < 2) + 1) ∧ Hid (p = ((numsOf xs).take k).countP (· < 4) + 1) ∧ Hid (t = bstr (97 :: tailB ((numsOf xs).take k))) ∧ Chg (fun _ => False) w wr)
    case atStart => exact ⟨0, 1, 1, ⟨#[97]⟩, by omega, rfl, rfl, rfl, rfl, rfl, by omega, by omega, by decide, Lib.hid (by simp), Lib.hid (by simp), Lib.hid rfl, Chg.refl _ _⟩
    case round =>
      obtain ⟨k, n, p, t, hk, rfl, rfl, rfl, rfl, rfl, hn, hp, hts, HN, HP, HT, hC⟩ := hrel
      generalize wr = W0 at *
      by_cases hlt : k < xs.length
      · have hz := HV.out.stay hC (fun _ _ e => e)
        obtain ⟨b1, o1, c1', cs1, hv1, hc1, _, hb1, hr1, _, hcs1⟩ := sl_get hz (by omega) k (.int .u8 xs[k].toNat) (by simp [bytD, hlt])
        rw [HBL.out] at hv1 hc1
        simp only [Value.slice.injEq] at hv1
        obtain ⟨rfl, _, rfl⟩ := hv1
        have e1 : cs1 = [.int .u8 xs[k].toNat] := hr1
        subst e1
        have g1 := hcs1 0 _ rfl
        simp only [Nat.mul_one, Nat.add_zero] at g1
        have r0 : IntKind.i64.wrap ((k : Int) + 1) = (k : Int) + 1 := IntWalk.i64_in _ (by omega)
        have HTK := Lib.hid (nums_take xs k hlt)
        have hx0 : (0 : Int) ≤ (xs[k].toNat : Int) := by omega
        have hx1 : (xs[k].toNat : Int) ≤ 255 := by have := xs[k].toNat_lt; omega
        clear hz hcs1 hr1
        generalize xs[k].toNat = x at *
        have HTN : ∀ (j : Nat) (b : ByteArray), x % 5 = j → b = bstr (sepB j) → Hid (t ++ b ++ (⟨#[97]⟩ : ByteArray) = bstr (97 :: tailB ((numsOf xs).take (k + 1)))) := by
          intro j b hj hb
          refine Lib.hid ?_
          rw [HTK.out, HT.out, hj]
          exact text_next _ j b hb
        have HCN : ∀ (j : Nat), x % 5 = j → ((numsOf xs).take (k + 1)).countP (· < 2) = ((numsOf xs).take k).countP (· < 2) + (if j < 2 then 1 else 0) ∧ ((numsOf xs).take (k + 1)).countP (· < 4) = ((numsOf xs).take k).countP (· < 4) + (if j < 4 then 1 else 0) := by
          intro j hj
          rw [HTK.out, hj]
          simp [List.countP_append, List.countP_cons]
        have cases5 : x % 5 = 0 ∨ x % 5 = 1 ∨ x % 5 = 2 ∨ x % 5 = 3 ∨ x % 5 = 4 := by omega
        have HHTN := Lib.hid HTN
        have HHCN := Lib.hid HCN
        clear HTN HCN
        rcases cases5 with h5 | h5 | h5 | h5 | h5
        · have H5 := Lib.hid h5
          have h6 : ((x : Int) % 5) = 0 := by omega
          have h7 : ((x : Int).tmod 5) = 0 := by rw [Int.tmod_eq_emod_of_nonneg (by omega)]; omega
          clear h5
          go_wp2
          go_roundg (gk - 1)
          case measure => omega
          case rel =>
            refine ⟨k + 1, n + 1, p + 1, _, by omega, rfl, rfl, rfl, rfl, rfl, by omega, by omega, ?_, Lib.hid ?_, Lib.hid ?_, HHTN.out 0 _ H5.out rfl, hC.alloc _⟩
            · rw [ByteArray.size_append, ByteArray.size_append]; show t.size + 1 + 1 ≤ _; omega
            · rw [(HHCN.out 0 H5.out).1, HN.out]; rfl
            · rw [(HHCN.out 0 H5.out).2, HP.out]; rfl
        · have H5 := Lib.hid h5
          have h6 : ((x : Int) % 5) = 1 := by omega
          have h7 : ((x : Int).tmod 5) = 1 := by rw [Int.tmod_eq_emod_of_nonneg (by omega)]; omega
          clear h5
          go_wp2
          go_roundg (gk - 1)
          case measure => omega
          case rel =>
            refine ⟨k + 1, n + 1, p + 1, _, by omega, rfl, rfl, rfl, rfl, rfl, by omega, by omega, ?_, Lib.hid ?_, Lib.hid ?_, HHTN.out 1 _ H5.out rfl, hC.alloc _⟩
            · rw [ByteArray.size_append, ByteArray.size_append]; show t.size + 1 + 1 ≤ _; omega
            · rw [(HHCN.out 1 H5.out).1, HN.out]; rfl
            · rw [(HHCN.out 1 H5.out).2, HP.out]; rfl
        · have H5 := Lib.hid h5
          have h6 : ((x : Int) % 5) = 2 := by omega
          have h7 : ((x : Int).tmod 5) = 2 := by rw [Int.tmod_eq_emod_of_nonneg (by omega)]; omega
          clear h5
          go_wp2
          go_roundg (gk - 1)
          case measure => omega
          case rel =>
            refine ⟨k + 1, n, p + 1, _, by omega, rfl, rfl, rfl, rfl, rfl, by omega, by omega, ?_, Lib.hid ?_, Lib.hid ?_, HHTN.out 2 _ H5.out rfl, hC.alloc _⟩
            · rw [ByteArray.size_append, ByteArray.size_append]; show t.size + 4 + 1 ≤ _; omega
            · rw [(HHCN.out 2 H5.out).1, HN.out]; rfl
            · rw [(HHCN.out 2 H5.out).2, HP.out]; rfl
        · have H5 := Lib.hid h5
          have h6 : ((x : Int) % 5) = 3 := by omega
          have h7 : ((x : Int).tmod 5) = 3 := by rw [Int.tmod_eq_emod_of_nonneg (by omega)]; omega
          clear h5
          go_wp2
          go_roundg (gk - 1)
          case measure => omega
          case rel =>
            refine ⟨k + 1, n, p + 1, _, by omega, rfl, rfl, rfl, rfl, rfl, by omega, by omega, ?_, Lib.hid ?_, Lib.hid ?_, HHTN.out 3 _ H5.out rfl, hC.alloc _⟩
            · rw [ByteArray.size_append, ByteArray.size_append]; show t.size + 2 + 1 ≤ _; omega
            · rw [(HHCN.out 3 H5.out).1, HN.out]; rfl
            · rw [(HHCN.out 3 H5.out).2, HP.out]; rfl
        · have H5 := Lib.hid h5
          have h6 : ((x : Int) % 5) = 4 := by omega
          have h7 : ((x : Int).tmod 5) = 4 := by rw [Int.tmod_eq_emod_of_nonneg (by omega)]; omega
          clear h5
          go_wp2
          go_roundg (gk - 1)
          case measure => omega
          case rel =>
            refine ⟨k + 1, n, p, _, by omega, rfl, rfl, rfl, rfl, rfl, by omega, by omega, ?_, Lib.hid ?_, Lib.hid ?_, HHTN.out 4 _ H5.out rfl, hC.alloc _⟩
            · rw [ByteArray.size_append, ByteArray.size_append]; show t.size + 1 + 1 ≤ _; omega
            · rw [(HHCN.out 4 H5.out).1, HN.out]; rfl
            · rw [(HHCN.out 4 H5.out).2, HP.out]; rfl
      · have hkx : k = xs.length := by omega
        subst hkx
        have htk : (numsOf xs).take xs.length = numsOf xs := List.take_of_length_le (by simp [numsOf])
        have HTL : Hid (t.data.toList = 97 :: tailB (numsOf xs)) := Lib.hid (by rw [HT.out, bstr_toList, htk])
        have HN1 : Hid (n = (numsOf xs).countP (· < 2) + 1) := Lib.hid (by rw [HN.out, htk])
        have HP1 : Hid (p = (numsOf xs).countP (· < 4) + 1) := Lib.hid (by rw [HP.out, htk])
        have hnl : (numsOf xs).length = xs.length := by simp [numsOf]
        obtain ⟨ls, e1, e2, e3, e4, e5⟩ := parse_a (4 * t.size + 1) (numsOf xs) (nums_lt xs)
        have HPC := Parse_calls t W0 (4 * t.size + 5) (Nat.le_refl _) (by omega)
        rw [HTL.out, show 4 * t.size + 5 = 4 * t.size + 1 + 4 by omega, e1] at HPC
        have hll : ls.length ≤ 201 := by
          have := List.countP_le_length (p := fun x => decide (x < 2)) (l := numsOf xs)
          omega
        have hn2 : n = ls.length := by rw [HN1.out, e2]
        have HP2 : Hid (p = (ls.map Lst.size).sum) := Lib.hid (by rw [HP1.out, e3])
        have HA2 : Hid (xs.length + 1 = (ls.map Lst.csize).sum) := Lib.hid (by rw [e4, hnl])
        have HE5 := Lib.hid e5
        clear HN HP HT HN1 HP1 htk e1 e2 e3 e4 e5 hnl hlt hk
        subst hn2
        go_wp2_with fail
        refine Calls.mono HPC ?_
        clear HPC
        rintro e w1 ⟨hC1, A1, c1, rfl, hO⟩
        have HO := Lib.hid hO
        clear hO
        have hC2 := hC.trans hC1 (fun _ h _ => h)
        clear hC hC1 HTL
        generalize hnx : xs.length = nx at *
        clear hnx
        go_wp2
        go_loopg [5, 6, 12] ls.length (fun rk pv av iv wr => ∃ i p a : Nat, i + rk = ls.length ∧ iv = .int .i64 i ∧ pv = .int .i64 p ∧ av = .int .i64 a ∧ Hid (p = ((ls.drop i).map Lst.size).sum) ∧ Hid (a = ((ls.drop i).map Lst.csize).sum) ∧ p ≤ 300 ∧ a ≤ 300 ∧ Chg (fun _ => False) w1 wr)
        case atStart => exact ⟨0, p, nx + 1, by omega, rfl, rfl, rfl, Lib.hid (by simpa using HP2.out), Lib.hid (by simpa using HA2.out), by omega, by omega, Chg.refl _ _⟩
        case round =>
          clear HP2 HA2 hp hn hts
          obtain ⟨i, p, a, hi, rfl, rfl, rfl, HP, HA, hp, ha, hC⟩ := hrel
          generalize wr = W2 at *
          have ho := HO.out.stay hC (fun _ _ e => e)
          simp only [Lst.ds_map] at ho
          by_cases hlt : i < ls.length
          · obtain ⟨y, hy⟩ : ∃ y, ls[i]? = some y := ⟨ls[i], List.getElem?_eq_getElem hlt⟩
            obtain ⟨b1, o1, c1', cs1, hv1, hcc, _, _, hr1, _, hcs1⟩ := sl_get ho (by omega) i y.d (by rw [List.getElem?_map, hy]; rfl)
            simp only [List.length_map, Value.slice.injEq] at hv1 hcc
            obtain ⟨rfl, _, rfl⟩ := hv1
            have hmem := List.mem_of_getElem? hy
            have h5 := HE5.out y hmem
            have hdrop : ls.drop i = y :: ls.drop (i + 1) := by
              rw [List.drop_eq_getElem_cons hlt]
              rw [List.getElem?_eq_getElem hlt] at hy
              simp only [Option.some.injEq] at hy
              rw [hy]
            have hps : p = y.size + ((ls.drop (i + 1)).map Lst.size).sum := by rw [HP.out, hdrop]; simp
            have has : a = y.csize + ((ls.drop (i + 1)).map Lst.csize).sum := by rw [HA.out, hdrop]; simp
            obtain ⟨ps, os⟩ := y
            obtain ⟨x1, x2, rfl, hp1, ho1⟩ := lst_rep.1 hr1
            obtain ⟨Ap, cp, rfl⟩ := sl_form hp1
            obtain ⟨Ao, co, rfl⟩ := sl_form ho1
            simp only [Pip.ds_map, List.length_map] at hp1 ho1 hcs1
            simp only [Lst.size, Lst.osize, Lst.csize] at h5 hps has
            have g1 := hcs1 0 _ rfl
            have g2 := hcs1 1 _ rfl
            simp only [Nat.add_zero, ← Nat.add_assoc] at g1 g2
            have hpm : ps.length ≤ p := by omega
            have ham : cmdsOf ps ≤ a := by omega
            have HPS := Lib.hid hps
            have HAS := Lib.hid has
            have r0 : IntKind.i64.wrap ((i : Int) + 1) = (i : Int) + 1 := IntWalk.i64_in _ (by omega)
            have r1 : IntKind.i64.wrap ((p : Int) - (ps.length : Int)) = (p : Int) - (ps.length : Int) := IntWalk.i64_in _ (by omega)
            have r2 : IntKind.i64.wrap ((ps.length : Int) - 1) = (ps.length : Int) - 1 := IntWalk.i64_in _ (by omega)
            have t1 : ((os.length : Int) == (ps.length : Int) - 1) = true := by simp; omega
            have t2 : ((os.length : Int) != (ps.length : Int) - 1) = false := by simp; omega
            have HP1 := Lib.hid hp1
            have H5 := Lib.hid h5
            clear ho hr1 hcs1 hy hmem hdrop hps has hp1 ho1 HP HA h5
            go_wp2
            go_quiet (fail)
            go_wp2
            go_loopg [6, 13] ps.length (fun rk av kv wx => ∃ q b : Nat, q + rk = ps.length ∧ kv = .int .i64 q ∧ av = .int .i64 b ∧ Hid (b = cmdsOf (ps.drop q) + ((ls.drop (i + 1)).map Lst.csize).sum) ∧ b ≤ 300 ∧ Chg (fun _ => False) W2 wx)
            case atStart => exact ⟨0, a, by omega, rfl, rfl, Lib.hid (by simpa using HAS.out), by omega, (Chg.refl _ _).drewN _⟩
            case round =>
              clear ham HAS ha
              obtain ⟨q, b, hq, rfl, rfl, HB, hb, hC3⟩ := hrel
              generalize wr = W3 at *
              have k1 := hC3.cell g1 (fun e => e)
              have k2 := hC3.cell g2 (fun e => e)
              by_cases hql : q < ps.length
              · have hz := HP1.out.stay hC3 (fun _ _ e => e)
                obtain ⟨y, hy⟩ : ∃ y, ps[q]? = some y := ⟨ps[q], List.getElem?_eq_getElem hql⟩
                obtain ⟨b2, o2, c2', cs2, hv2, hc2, _, _, hr2, _, hcs2⟩ := sl_get hz (by omega) q y.d (by rw [List.getElem?_map, hy]; rfl)
                simp only [List.length_map, Value.slice.injEq] at hv2 hc2
                obtain ⟨rfl, _, rfl⟩ := hv2
                have hdrop : ps.drop q = y :: ps.drop (q + 1) := by
                  rw [List.drop_eq_getElem_cons hql]
                  rw [List.getElem?_eq_getElem hql] at hy
                  simp only [Option.some.injEq] at hy
                  rw [hy]
                have hbs : b = y.size + (cmdsOf (ps.drop (q + 1)) + ((ls.drop (i + 1)).map Lst.csize).sum) := by rw [HB.out, hdrop]; simp [cmdsOf]; omega
                obtain ⟨neg, cs⟩ := y
                obtain ⟨x3, rfl, hc3⟩ := pip_rep.1 hr2
                obtain ⟨Ac, cc, rfl⟩ := sl_form hc3
                simp only [Cmd.ds_map, List.length_map] at hcs2
                simp only [Pip.size] at hbs
                have g4 := hcs2 1 _ rfl
                simp only [← Nat.add_assoc] at g4
                have hbm : cs.length ≤ b := by omega
                have HBS := Lib.hid hbs
                have u0 : IntKind.i64.wrap ((q : Int) + 1) = (q : Int) + 1 := IntWalk.i64_in _ (by omega)
                have u1 : IntKind.i64.wrap ((b : Int) - (cs.length : Int)) = (b : Int) - (cs.length : Int) := IntWalk.i64_in _ (by omega)
                clear hz hr2 hcs2 hy hdrop hbs hc3 g1 g2
                go_wp2
                go_roundg (ps.length - (q + 1))
                case measure => omega
                case rel => exact ⟨q + 1, b - cs.length, by omega, rfl, by rw [Int.ofNat_sub hbm], Lib.hid (by have := HBS.out; omega), by omega, hC3⟩
              · go_wp2
                go_roundg (ls.length - (i + 1))
                case measure => omega
                case rel =>
                  have hdr : ps.drop q = [] := List.drop_eq_nil_of_le (by omega)
                  exact ⟨i + 1, p - ps.length, b, by omega, rfl, by rw [Int.ofNat_sub hpm], rfl, Lib.hid (by have := HPS.out; omega), Lib.hid (by rw [HB.out, hdr]; simp [cmdsOf]), by omega, by omega, hC.trans hC3 (fun _ h _ => h)⟩
          · have hdr : ls.drop i = [] := List.drop_eq_nil_of_le (by omega)
            have hp0 : p = 0 := by rw [HP.out, hdr]; rfl
            have ha0 : a = 0 := by rw [HA.out, hdr]; rfl
            subst hp0 ha0
            clear ho hdr HP HA hp ha
            go_wp2_with (go_at_call 23; refine (law_awake _).mono ?_; rintro e wa ⟨rfl, hCa⟩)
            go_ret
            exact ⟨rfl, (hC2.trans hC (fun _ h _ => h)).trans hCa (fun _ h _ => h)⟩

theorem bytes_repE (w : World) (S : Nat → Prop) : ∀ l : List UInt8, RepE w S 1 (l.map fun c => D.int .u8 c.toNat) (l.map fun c => Value.int .u8 c.toNat)
  | [] => rfl
  | c :: l => ⟨[.int .u8 c.toNat], l.map fun c => .int .u8 c.toNat, rfl, rfl, rfl, bytes_repE w S l⟩
theorem cellsTryu8 : Try.prog.cellsOf 5 = 1 := by kernel_rfl
open Go.ChangeShapes Go.WideShapes Go.ChangeAt in
set_option maxRecDepth 100000 in
/-- A slice of bytes that came in reads as such. -/
theorem open_u8s {H : Type} {enc : TypeId × Value → H} {W : World} {base : Nat} {v : Value} {d : DataW H} {ps : List MemPlace} (hval : Value.okWide Try.prog W .any base 54 v) (h : DataW.Trod enc Try.prog W 0 (fun _ => true) true 54 v d ps) :
    ∃ xs : List UInt8, Rep W (fun _ => True) (.sl 5 1 (bytD xs)) [v] := by
  obtain ⟨a1, len, cap, rfl⟩ := okWide_slice Try.underlying54 hval
  obtain ⟨fuel, hf⟩ := h
  rcases open_ints Try.underlying54 Try.underlying5 cellsTryu8 hf with ⟨hcs, hx⟩ | ⟨a, len', cap', zs, hcs, _, hl, hm, hz, hx, hcell, hwz⟩
  · simp [Value.cells] at hcs
    obtain ⟨rfl, rfl, rfl⟩ := hcs
    exact ⟨[], rep_nil _ _ _ _⟩
  · simp [Value.cells] at hcs
    obtain ⟨rfl, rfl, rfl⟩ := hcs
    simp only [if_true] at hz
    have hlen : ((zs.take len).map fun n => UInt8.ofNat n.toNat).length = len := by simp; omega
    refine ⟨(zs.take len).map fun n => UInt8.ofNat n.toNat, some a, cap, ((zs.take len).map fun n => UInt8.ofNat n.toNat).map fun c => .int .u8 c.toNat, ?_, ?_, hm, ?_, bytes_repE _ _ _⟩
    · simp only [bytD, List.length_map]; rw [show (zs.take len).length = len by simp; omega]
    · simp only [bytD, List.length_map]; simp; omega
    · intro j u hj
      have hjl : j < len := by
        have := (List.getElem?_eq_some_iff.1 hj).1
        simp at this; omega
      have hcj := hcell j (by omega)
      obtain ⟨ab, ao, spot⟩ := a
      have hspot : spot = none := by simpa [Addr.add] using World.cell?_spot (hcell 0 (by omega))
      subst hspot
      refine ⟨ab, ao, rfl, trivial, ?_⟩
      rw [addr_add2] at hcj
      rw [hcj]
      have hb := range_u8 hwz j
      have e : zs[j]?.getD 0 = zs[j]'(by omega) := by simp [List.getElem?_eq_getElem (show j < zs.length by omega)]
      rw [e] at hb
      simp only [List.getElem?_map, List.getElem?_take, hjl, if_true, List.getElem?_eq_getElem (show j < zs.length by omega), Option.map_some, Option.some.injEq] at hj
      rw [← hj, List.getD_eq_getElem?_getD, e]
      congr 2
      simp only [UInt8.toNat_ofNat']
      omega

namespace fnSyntaxLists
open Go.ChangeShapes Go.WideShapes Go.ChangeAt
open Go.ChangeMaps (open_string shut_string)
theorem own : ownKnob Try.prog.godebug = none := by kernel_rfl

set_option maxRecDepth 100000 in
theorem lifted (os : Os) (started : os.Started) (H : Type) (enc : TypeId × Value → H) :
    ReturnsInHanded {} Try.checked os 9 .any (Rows.syntaxListsSpec.pre6 enc Try.prog Try.f9 Rows.syntaxListsRow.domain false) (Rows.syntaxListsSpec.post enc Try.prog Try.f9 false true false false) := by
  refine returnsInHanded_of_change_sized (C := Try.checked) own started (by kernel_rfl) Try.func9
    (ChangeSpec.witness6 (enc := enc) (C := Try.checked) false ⟨#[], #[.slice none 0 0], []⟩ 8 (by kernel_rfl) (by kernel_rfl) (by kernel_rfl) (by kernel_rfl)) ?_
  intro W base args ds gs before hval0 hW _ hsz0 _
  have hsz : (DataW.weightsEach Try.prog (Try.f9.params.toList ++ Rows.syntaxListsSpec.plain.varTypes Try.prog) (ds ++ gs)).all (· ≤ reachBytes) = true := hsz0
  clear hsz0
  have hval : ∀ (j : Nat) t v, Try.f9.params[j]? = some t → args[j]? = some v → Value.okWide Try.prog W .any base t v := hval0
  have hW' := hW
  obtain ⟨p, q, hA0, hV, rfl, _, _⟩ := hW
  have hA : DataW.TrodAll enc Try.prog W 0 (fun _ => true) true Try.f9.params.toList args.toList ds p := hA0
  rw [Try.params9] at hA hval hsz
  obtain ⟨v0, vs0, d0, ds0, p0, q0, hargs, rfl, rfl, h0, r0⟩ := trodAll_cons hA
  obtain ⟨rfl, rfl, rfl⟩ := trodAll_nil r0
  obtain rfl : args = #[v0] := by cases args; simp_all
  obtain ⟨rfl, rfl⟩ := trodVars_none hV
  obtain ⟨xs, hv⟩ := open_u8s (hval 0 54 v0 rfl rfl) h0
  clear hA0
  simp only [List.append_nil] at hW'
  refine (syntaxLists_calls xs v0 _ W hv).mono fun e W' ⟨he, hg⟩ => ?_
  subst he
  have hlt := DataW.TrodAll.lt hA
  have h0' : DataW.Trod enc Try.prog W' 0 (fun b => decide (b < W.heap.size)) true 54 v0 d0 p0 := Go.WideElems.Trod_stays (by kernel_rfl) (by kernel_rfl) (of_decide_eq_true (by kernel_rfl)) h0 (fun p hp => hg.below.same (hlt p (by simp [hp]))) (fun p hp => by have := hlt p (by simp [hp]); simpa using this)
  have hall : DataW.TrodAll enc Try.prog W' 0 (fun b => decide (b < W.heap.size)) true [54] [v0] [d0] p0 := by simpa using trodAll_cons_mk h0' trodAll_mk0
  exact ⟨_, rfl, _, _, _, [], p0, [], hW', trodAll_cons_mk (shut_bool Try.underlying4 _) trodAll_mk0, hall, rfl, hg.below.frame _, fun h => by cases h⟩
end fnSyntaxLists
set_option maxRecDepth 100000 in
theorem syntaxLists_proved : Rows.SyntaxListsSaid :=
  OpenClaim.holds_of_wide 9 Try.f9 rfl rfl rfl rfl rfl rfl rfl ⟨rfl, rfl, rfl, rfl, rfl⟩ rfl rfl rfl rfl rfl (by kernel_rfl) Try.func9 (by kernel_rfl)
    (of_decide_eq_true (by kernel_rfl)) (by unfold Func.isWrapper; first | (rw [if_pos (by decide +kernel)]; kernel_rfl) | (rw [if_neg (by decide +kernel)]; exact ⟨rfl, rfl⟩))
    (fun os started H enc _ => fnSyntaxLists.lifted os started H enc)
#print axioms syntaxLists_proved
end Go.Proofs.Ytdfnkmiabmjolaa
