/- A script that is told to be small is so, if no sum wraps round; and how great a script's data are. And what stands with it. -/
import Derived.Test.YtdfnkmiabmjolaaGreatDoorJ16
set_option linter.unusedVariables false
set_option linter.unusedSimpArgs false
namespace Go.Proofs.YtdfnkmiabmjolaaGreatDoor
theorem wr64_id {n : Int} (h1 : 0 ≤ n) (h2 : n ≤ 9223372036854775807) : wr64 n = n := by
 unfold wr64 Go.RowKit.wrap64
 omega
theorem sizeL_up (g : List Part → Nat) (hg : ∀ w, g w ≤ 5000 + 5001 * Part.wts w) : ∀ ps n, sizeL g n ps + ps.length ≤ n + 5001 * Part.wts ps
 | [], n => by simp [sizeL]
 | .mk k q t o w :: ps, n => by
  rw [sizeL]
  have h1 := hg w
  have h2 := sizeL_up g hg ps (n + t.length + o.length + g w)
  simp only [Part.text, Part.op, Part.word, Part.wts, Part.wt, List.length_cons] at h2 ⊢
  split
  ·have h3 := Part.length_le ps
   omega
  ·omega
theorem sizeW_up : ∀ f ps, sizeW f ps ≤ 5000 + 5001 * Part.wts ps
 | 0, ps => by simp [sizeW]
 | f + 1, ps => by
  rw [sizeW]
  split
  ·omega
  ·have := sizeL_up (sizeW f) (sizeW_up f) ps ps.length
   omega
theorem sizeW41_up (ps : List Part) : sizeW 41 ps ≤ 20000 * Part.wts ps := by
 cases ps with
 | nil => simp [sizeW, sizeL]
 | cons p ps =>
  obtain ⟨k, q, t, o, w⟩ := p
  have := sizeW_up 41 (.mk k q t o w :: ps)
  simp only [Part.wts, Part.wt] at this ⊢
  omega
structure Sm (n r : Int) (g s : Nat) : Prop where
 lo : n ≤ r
 hi : r ≤ n + s
 eq : r ≤ 3000 → r = n + g
abbrev big : Int := 1000000000000000000
theorem Sm.stop {n : Int} {g s : Nat} (h : ¬ n ≤ 3000) : Sm n n g s := ⟨Int.le_refl _, by omega, fun e => absurd e h⟩
theorem Sm.refl (n : Int) : Sm n n 0 0 := ⟨Int.le_refl _, by omega, fun _ => by omega⟩
theorem Sm.trans {a b c : Int} {g h s t : Nat} (h1 : Sm a b g s) (h2 : Sm b c h t) : Sm a c (g + h) (s + t) :=
 ⟨Int.le_trans h1.lo h2.lo, by have := h1.hi; have := h2.hi; omega, fun e => by have := h1.eq (Int.le_trans h2.lo e); have := h2.eq e; omega⟩
theorem Sm.wide {n r : Int} {g s t : Nat} (h : Sm n r g s) (hst : s ≤ t) : Sm n r g t := ⟨h.lo, by have := h.hi; omega, h.eq⟩
theorem Sm.one {n v : Int} {g s : Nat} (h0 : 0 ≤ n) (hn : n + s ≤ big) (v0 : 0 ≤ v) (vh : v ≤ s) (he : v ≤ 3000 → v = g) : Sm n (wr64 (n + v)) g s := by
 simp only [big] at hn
 rw [wr64_id (by omega) (by omega)]
 exact ⟨by omega, by omega, fun e => by have := he (by omega); omega⟩
theorem Sm.nat {n : Int} {g : Nat} (h0 : 0 ≤ n) (hn : n + g ≤ big) : Sm n (wr64 (n + (g : Nat))) g g := Sm.one h0 hn (by omega) (by omega) (fun _ => rfl)
theorem sm_loop {α : Type} {F : Int → List α → Int} {h : Int → α → Int} {g s : α → Nat} (hF0 : ∀ n, F n [] = n) (hF1 : ∀ n x xs, F n (x :: xs) = if n ≤ 3000 then F (h n x) xs else n)
  (H : ∀ x n, 0 ≤ n → n + s x ≤ big → Sm n (h n x) (g x) (s x)) : ∀ xs n, 0 ≤ n → n + ((xs.map s).sum : Nat) ≤ big → Sm n (F n xs) (xs.map g).sum (xs.map s).sum
 | [], n, _, _ => by rw [hF0]; exact Sm.refl n
 | x :: xs, n, h0, hn => by
  simp only [List.map_cons, List.sum_cons] at hn ⊢
  rw [hF1]
  split
  ·have h1 := H x n h0 (by omega)
   have := h1.lo
   have := h1.hi
   exact h1.trans (sm_loop hF0 hF1 H xs _ (by omega) (by omega))
  ·exact Sm.stop (by assumption)
theorem sum_mul {α : Type} (g : α → Nat) (k : Nat) : ∀ xs : List α, (xs.map fun x => k * g x).sum = k * (xs.map g).sum
 | [] => by simp
 | x :: xs => by simp [sum_mul g k xs, Nat.mul_add]
theorem sum_add {α : Type} (g : α → Nat) (k : Nat) : ∀ xs : List α, (xs.map fun x => g x + k).sum = (xs.map g).sum + k * xs.length
 | [] => by simp
 | x :: xs => by simp only [List.map_cons, List.sum_cons, sum_add g k xs, List.length_cons, Nat.mul_add]; omega
theorem sm_words (ws : List (List Part)) (n : Int) (h0 : 0 ≤ n) (hn : n + (20000 * (ws.map Part.wts).sum : Nat) ≤ big) : Sm n (szW n ws) (ws.map Part.wts).sum (20000 * (ws.map Part.wts).sum) := by
 rw [← sum_mul] at hn ⊢
 exact sm_loop (F := szW) (h := fun n w => wr64 (n + (sizeW 41 w : Nat))) (fun _ => rfl) (fun _ _ _ => rfl)
  (fun w n h0 hn => Sm.one h0 hn (by omega) (by have := sizeW41_up w; omega) (fun e => by have := sizeW_exact 41 w (by omega); omega)) ws n h0 hn
theorem sm_szWords (ws : List (List Part)) (n : Int) (h0 : 0 ≤ n) (hn : n + (20000 * greatWords ws : Nat) ≤ big) : Sm n (wr64 (n + szWords ws)) (greatWords ws) (20000 * greatWords ws) := by
 simp only [greatWords] at hn ⊢
 have h1 := sm_words ws ws.length (by omega) (by simp only [big] at hn ⊢; omega)
 have h2 := h1.lo
 have h3 := h1.hi
 exact Sm.one h0 hn (by unfold szWords; omega) (by unfold szWords; omega) (fun e => by have := h1.eq (by unfold szWords at e; omega); unfold szWords; omega)
theorem sm_szO (os : List Bytes) (n : Int) (h0 : 0 ≤ n) (hn : n + ((os.map List.length).sum : Nat) ≤ big) : Sm n (szO n os) (os.map List.length).sum (os.map List.length).sum :=
 sm_loop (F := szO) (h := fun n o => wr64 (n + (o.length : Nat))) (fun _ => rfl) (fun _ _ _ => rfl) (fun o n h0 hn => Sm.nat h0 hn) os n h0 hn
theorem sm_two {n : Int} {k : Nat} {w : List Part} (h0 : 0 ≤ n) (hn : n + (20000 * (k + Part.wts w) : Nat) ≤ big) : Sm n (wr64 (wr64 (n + (k : Nat)) + (sizeW 41 w : Nat))) (k + Part.wts w) (20000 * (k + Part.wts w)) := by
 have h1 := Sm.nat (g := k) h0 (by omega)
 have := h1.lo
 have := h1.hi
 have h2 := Sm.one (n := wr64 (n + (k : Nat))) (v := (sizeW 41 w : Nat)) (g := Part.wts w) (s := 20000 * Part.wts w) (by omega) (by omega) (by omega) (by have := sizeW41_up w; omega) (fun e => by have := sizeW_exact 41 w (by omega); omega)
 exact (h1.trans h2).wide (by omega)
theorem sm_szA (xs : List Asg) (n : Int) (h0 : 0 ≤ n) (hn : n + (20000 * (xs.map Asg.great).sum : Nat) ≤ big) : Sm n (szA n xs) (xs.map Asg.great).sum (20000 * (xs.map Asg.great).sum) := by
 rw [← sum_mul] at hn ⊢
 exact sm_loop (F := szA) (h := fun n x => wr64 (wr64 (n + (x.name.length : Nat)) + (sizeW 41 x.word : Nat))) (fun _ => rfl) (fun _ _ _ => rfl) (fun x n h0 hn => sm_two h0 hn) xs n h0 hn
theorem sm_szR (xs : List Rdr) (n : Int) (h0 : 0 ≤ n) (hn : n + (20000 * (xs.map Rdr.great).sum : Nat) ≤ big) : Sm n (szR n xs) (xs.map Rdr.great).sum (20000 * (xs.map Rdr.great).sum) := by
 rw [← sum_mul] at hn ⊢
 exact sm_loop (F := szR) (h := fun n x => wr64 (wr64 (n + (x.op.length : Nat)) + (sizeW 41 x.word : Nat))) (fun _ => rfl) (fun _ _ _ => rfl) (fun x n h0 hn => sm_two h0 hn) xs n h0 hn
theorem greatCas_map : ∀ cs : List Cas, greatCas cs = (cs.map Cas.great).sum
 | [] => by rw [greatCas]; rfl
 | c :: cs => by rw [greatCas, greatCas_map cs]; simp
theorem greatCmds_map : ∀ cs : List Cmd, greatCmds cs = (cs.map Cmd.great).sum
 | [] => by rw [greatCmds]; rfl
 | c :: cs => by rw [greatCmds, greatCmds_map cs]; simp
theorem greatPips_map : ∀ cs : List Pip, greatPips cs = (cs.map Pip.great).sum
 | [] => by rw [greatPips]; rfl
 | c :: cs => by rw [greatPips, greatPips_map cs]; simp
theorem greatLs_map : ∀ cs : List Lst, greatLs cs = (cs.map Lst.great).sum + cs.length
 | [] => by rw [greatLs]; rfl
 | c :: cs => by rw [greatLs, greatLs_map cs]; simp; omega
def SzA (g : List Lst → Int) : Prop := ∀ ls, ((4000 + 20000 * greatLs ls : Nat) : Int) ≤ big → 0 ≤ g ls ∧ g ls ≤ ((4000 + 20000 * greatLs ls : Nat) : Int) ∧ (g ls ≤ 3000 → g ls = (greatLs ls : Nat))
theorem SzA.sm {g : List Lst → Int} (hg : SzA g) (ls : List Lst) {n : Int} (h0 : 0 ≤ n) (hn : n + ((4000 + 20000 * greatLs ls : Nat) : Int) ≤ big) : Sm n (wr64 (n + g ls)) (greatLs ls) (4000 + 20000 * greatLs ls) := by
 obtain ⟨h1, h2, h3⟩ := hg ls (by omega)
 exact Sm.one h0 hn h1 h2 h3
theorem sm_szCa {g : List Lst → Int} (hg : SzA g) (cs : List Cas) (n : Int) (h0 : 0 ≤ n) (hn : n + ((20000 * greatCas cs + 4000 * cs.length : Nat) : Int) ≤ big) : Sm n (szCa g n cs) (greatCas cs) (20000 * greatCas cs + 4000 * cs.length) := by
 rw [greatCas_map, ← sum_mul, ← sum_add] at hn
 rw [greatCas_map, ← sum_mul, ← sum_add]
 refine sm_loop (F := szCa g) (h := fun n x => wr64 (wr64 (n + szWords x.pats) + g x.body)) (fun _ => rfl) (fun _ _ _ => rfl) ?_ cs n h0 hn
 rintro ⟨ps, b⟩ n h0 hn
 simp only [Cas.great, Cas.pats, Cas.body] at hn ⊢
 have h1 := sm_szWords ps n h0 (by omega)
 have := h1.lo
 have := h1.hi
 exact (h1.trans (hg.sm b (by omega) (by omega))).wide (by omega)
theorem Sm.add {n m : Int} {g s g2 s2 : Nat} (h : Sm 0 n g s) (hT : ((s + s2 : Nat) : Int) ≤ big) (H : 0 ≤ n → n + (s2 : Nat) ≤ big → Sm n m g2 s2) : Sm 0 m (g + g2) (s + s2) :=
 h.trans (H h.lo (by have := h.hi; omega))
theorem sm_szC {g : List Lst → Int} (hg : SzA g) (c : Cmd) (hn : ((20000 * c.great : Nat) : Int) ≤ big) : Sm 0 (szC g c) c.great (20000 * c.great) := by
 obtain ⟨k, n, xs, ws, co, bo, ot, ca, rs⟩ := c
 simp only [Cmd.great] at hn ⊢
 rw [szC]
 have a0 : Sm 0 (wr64 (1 + (n.length : Nat))) (1 + n.length) (1 + n.length) := by
  have := Sm.nat (n := 0) (g := 1 + n.length) (by omega) (by omega)
  simpa using this
 have t1 : ((1 + n.length + 20000 * greatWords ws : Nat) : Int) ≤ big := by omega
 have t2 : ((1 + n.length + 20000 * greatWords ws + xs.length : Nat) : Int) ≤ big := by omega
 have t3 : ((1 + n.length + 20000 * greatWords ws + xs.length + rs.length : Nat) : Int) ≤ big := by omega
 have t4 : ((1 + n.length + 20000 * greatWords ws + xs.length + rs.length + ca.length : Nat) : Int) ≤ big := by omega
 have t5 : ((1 + n.length + 20000 * greatWords ws + xs.length + rs.length + ca.length + 20000 * (xs.map Asg.great).sum : Nat) : Int) ≤ big := by omega
 have t6 : ((1 + n.length + 20000 * greatWords ws + xs.length + rs.length + ca.length + 20000 * (xs.map Asg.great).sum + 20000 * (rs.map Rdr.great).sum : Nat) : Int) ≤ big := by omega
 have t7 : ((1 + n.length + 20000 * greatWords ws + xs.length + rs.length + ca.length + 20000 * (xs.map Asg.great).sum + 20000 * (rs.map Rdr.great).sum + (20000 * greatCas ca + 4000 * ca.length) : Nat) : Int) ≤ big := by omega
 have t8 : ((1 + n.length + 20000 * greatWords ws + xs.length + rs.length + ca.length + 20000 * (xs.map Asg.great).sum + 20000 * (rs.map Rdr.great).sum + (20000 * greatCas ca + 4000 * ca.length) + (4000 + 20000 * greatLs co) : Nat) : Int) ≤ big := by omega
 have t9 : ((1 + n.length + 20000 * greatWords ws + xs.length + rs.length + ca.length + 20000 * (xs.map Asg.great).sum + 20000 * (rs.map Rdr.great).sum + (20000 * greatCas ca + 4000 * ca.length) + (4000 + 20000 * greatLs co) + (4000 + 20000 * greatLs bo) : Nat) : Int) ≤ big := by omega
 have t10 : ((1 + n.length + 20000 * greatWords ws + xs.length + rs.length + ca.length + 20000 * (xs.map Asg.great).sum + 20000 * (rs.map Rdr.great).sum + (20000 * greatCas ca + 4000 * ca.length) + (4000 + 20000 * greatLs co) + (4000 + 20000 * greatLs bo) + (4000 + 20000 * greatLs ot) : Nat) : Int) ≤ big := by omega
 have b4 := ((((((a0.add t1 (sm_szWords ws _)).add t2 Sm.nat).add t3 Sm.nat).add t4 Sm.nat).add t5 (sm_szA xs _)).add t6 (sm_szR rs _)).add t7 (sm_szCa hg ca _)
 clear a0 t1 t2 t3 t4 t5 t6 t7
 change Sm 0 (szCa g (szR (szA (szC0 n ws xs.length rs.length ca.length) xs) rs) ca) _ _ at b4
 generalize szCa g (szR (szA (szC0 n ws xs.length rs.length ca.length) xs) rs) ca = n3 at *
 rw [szC1]
 split
 ·rename_i h3
  clear t8 t9 t10
  have := b4.hi
  exact ⟨by omega, by omega, fun e => by omega⟩
 ·have h := ((b4.add t8 (hg.sm co)).add t9 (hg.sm bo)).add t10 (hg.sm ot)
  clear t8 t9 t10 b4 hn
  refine ⟨h.lo, ?_, fun e => ?_⟩
  ·have := h.hi
   clear h
   omega
  ·have := h.eq e
   clear h
   omega
theorem sm_szCs {g : List Lst → Int} (hg : SzA g) (cs : List Cmd) (n : Int) (h0 : 0 ≤ n) (hn : n + ((20000 * greatCmds cs : Nat) : Int) ≤ big) : Sm n (szCs g n cs) (greatCmds cs) (20000 * greatCmds cs) := by
 rw [greatCmds_map, ← sum_mul] at hn
 rw [greatCmds_map, ← sum_mul]
 refine sm_loop (F := szCs g) (h := fun n x => wr64 (n + szC g x)) (fun _ => rfl) (fun _ _ _ => rfl) (fun c n h0 hn => ?_) cs n h0 hn
 have h1 := sm_szC hg c (by omega)
 have := h1.lo
 have := h1.hi
 exact Sm.one h0 hn (by omega) (by omega) (fun e => by have := h1.eq e; omega)
theorem sm_szP {g : List Lst → Int} (hg : SzA g) (ps : List Pip) (n : Int) (h0 : 0 ≤ n) (hn : n + ((20000 * greatPips ps : Nat) : Int) ≤ big) : Sm n (szP g n ps) (greatPips ps) (20000 * greatPips ps) := by
 rw [greatPips_map, ← sum_mul] at hn
 rw [greatPips_map, ← sum_mul]
 refine sm_loop (F := szP g) (h := fun n x => szCs g (wr64 (n + (x.cmds.length : Nat))) x.cmds) (fun _ => rfl) (fun _ _ _ => rfl) ?_ ps n h0 hn
 rintro ⟨ng, cs⟩ n h0 hn
 simp only [Pip.great, Pip.cmds] at hn ⊢
 have h1 := Sm.nat (g := cs.length) h0 (by omega)
 have := h1.lo
 have := h1.hi
 exact (h1.trans (sm_szCs hg cs _ (by omega) (by omega))).wide (by omega)
theorem sm_szL {g : List Lst → Int} (hg : SzA g) (ls : List Lst) (n : Int) (h0 : 0 ≤ n) (hn : n + ((20000 * (ls.map Lst.great).sum : Nat) : Int) ≤ big) : Sm n (szL g n ls) (ls.map Lst.great).sum (20000 * (ls.map Lst.great).sum) := by
 rw [← sum_mul] at hn ⊢
 refine sm_loop (F := szL g) (h := fun n x => szP g (szO (wr64 (wr64 (n + (x.ops.length : Nat)) + (x.pipes.length : Nat))) x.ops) x.pipes) (fun _ => rfl) (fun _ _ _ => rfl) ?_ ls n h0 hn
 rintro ⟨ps, os⟩ n h0 hn
 simp only [Lst.great, Lst.ops, Lst.pipes] at hn ⊢
 have h1 := Sm.nat (g := os.length) h0 (by omega)
 have := h1.lo
 have := h1.hi
 have h2 := Sm.nat (n := wr64 (n + (os.length : Nat))) (g := ps.length) (by omega) (by omega)
 have := h2.lo
 have := h2.hi
 have h3 := sm_szO os (wr64 (wr64 (n + (os.length : Nat)) + (ps.length : Nat))) (by omega) (by omega)
 have := h3.lo
 have := h3.hi
 have h4 := sm_szP hg ps (szO (wr64 (wr64 (n + (os.length : Nat)) + (ps.length : Nat))) os) (by omega) (by omega)
 exact (((h1.trans h2).trans h3).trans h4).wide (by omega)
theorem szA_all : ∀ f, SzA (szLs f)
 | 0 => fun ls _ => by rw [szLs]; exact ⟨by omega, by omega, fun e => absurd e (by omega)⟩
 | f + 1 => fun ls hn => by
  rw [szLs]
  rw [greatLs_map] at hn ⊢
  have h := sm_szL (szA_all f) ls ls.length (by omega) (by omega)
  have := h.lo
  have := h.hi
  exact ⟨by omega, by omega, fun e => by have := h.eq e; omega⟩
theorem sz_small (ls : List Lst) (h : greatLs ls ≤ 1000000000) (hs : szLs 41 ls ≤ 3000) : greatLs ls ≤ 3000 := by
 have := (szA_all 41 ls (by simp only [big]; omega)).2.2 hs
 omega
end Go.Proofs.YtdfnkmiabmjolaaGreatDoor
namespace Go.Proofs.YtdfnkmiabmjolaaGreatDoor
open Go.RowKit
theorem printL_some {ls : List Lst} {t : Bytes} (h : printL ls = some t) : t.length ≤ 8192 ∧ ∃ r, parseF (4 * t.length + 5) 0 t = .ok ls r := by
 unfold printL at h
 split at h
 ·cases h
 ·rename_i hc
  split at h
  ·rename_i m r hp
   split at h
   ·rename_i hs
    cases h
    rw [ls_eq] at hs
    subst hs
    simp only [Bool.or_eq_true, decide_eq_true_eq, not_or] at hc
    exact ⟨by omega, r, hp⟩
   ·cases h
  ·cases h
set_option maxRecDepth 100000 in
set_option maxHeartbeats 4000000 in
theorem printOnce_calls (w : World) (S1 : Nat → Prop) (v1 : Value) (a : List Lst) (hl1 : limLs a) (hf1 : fdLs a) (hg : greatLs a ≤ 1000000000) (hm : HM w)
  (h1 : Rep w S1 (.sl 39 2 (Lst.ds a)) [v1]) :
  Calls Tryz.prog 3 #[v1] w fun e w' => e = .returned (.bool true) ∧ Chg (fun _ => False) w w' := by
 have HAW : Hid (∀ w', Chg (fun _ => False) w w' → Calls Tryz.prog 8 #[] w' fun e w'' => e = .returned (.bool true) ∧ Chg (fun _ => False) w' w'') := Lib.hid (fun w' hc => pawake_calls w' (hm.stay hc (fun e => e)))
 have hS1 := Lib.hid (szls_calls w S1 v1 a hl1 h1)
 have hsm := sz_small a hg
 generalize hn1 : szLs 41 a = n1 at *
 by_cases g1 : 1500 < n1
 ·have q1 : decide ((1500 : Int) < n1) = true := by simpa using g1
  obtain ⟨A1, l1, c1, rfl⟩ := sl_formN h1
  clear h1 hn1 hsm
  go_enter Tryz.func3, Tryz.ntmps3
  go_wp2_with fail
  refine Calls.mono hS1.out ?_
  rintro e w1 ⟨rfl, hC1⟩
  clear hS1
  go_wp2_with fail
  refine Calls.mono (HAW.out _ hC1) ?_
  rintro e w9 ⟨rfl, hC9⟩
  go_wp2
  go_ret
  exact ⟨rfl, (hC1).trans hC9 (fun _ h _ => h)⟩
 ·have q1 : decide ((1500 : Int) < n1) = false := by simpa using g1
  have hb : 64 * greatLs a ≤ 600000 := by have := hsm (by omega); omega
  have HP : Hid (∀ w', Chg (fun _ => False) w w' → Calls Tryz.prog 9 #[v1] w' fun e w'' => e = .returned (.tuple #[.string (strOf (printL a)), .int .i64 (errOf (printL a))]) ∧ Chg (fun _ => False) w' w'') :=
   Lib.hid (fun w' hc => lprint_calls w' S1 _ a hb (hm.stay hc (fun e => e)) hf1 (h1.stay hc (fun _ _ e => e)))
  have HP2 : Hid (∀ w' w'' S v, Chg (fun _ => False) w w' → Chg (fun _ => False) w' w'' → Rep w'' S (.sl 39 2 (Lst.ds a)) [v] → Calls Tryz.prog 9 #[v] w'' fun e w3 => e = .returned (.tuple #[.string (strOf (printL a)), .int .i64 (errOf (printL a))]) ∧ Chg (fun _ => False) w'' w3) :=
   Lib.hid (fun w' w'' S v hc hc2 hr => lprint_calls w'' S _ a hb (hm.stay (hc.trans hc2 (fun _ h _ => h)) (fun e => e)) hf1 hr)
  have HR : Hid (∀ w' S v, Chg (fun _ => False) w w' → Rep w' S (.sl 39 2 (Lst.ds a)) [v] → Calls Tryz.prog 11 #[v1, v] w' fun e w'' => e = .returned (.bool true) ∧ Chg (fun _ => False) w' w'') :=
   Lib.hid (fun w' S v hc hr => by rw [← sameLs_refl a]; exact rsame_calls w' S1 S _ _ a a (h1.stay hc (fun _ _ e => e)) hr)
  obtain ⟨A1, l1, c1, rfl⟩ := sl_formN h1
  cases hp : printL a with
  | none =>
   rw [hp] at HP
   simp only [strOf, errOf] at HP
   clear h1 hn1 hsm HP2 HR hp g1 hb
   go_enter Tryz.func3, Tryz.ntmps3
   go_wp2_with fail
   refine Calls.mono hS1.out ?_
   rintro e w1 ⟨rfl, hC1⟩
   clear hS1
   go_wp2_with fail
   refine Calls.mono (HP.out _ hC1) ?_
   rintro e w2 ⟨rfl, hC⟩
   have hC2 := hC1.trans hC (fun _ h _ => h)
   clear hC hC1 HP
   go_wp2_with fail
   refine Calls.mono (HAW.out _ hC2) ?_
   rintro e w9 ⟨rfl, hC9⟩
   go_wp2
   go_ret
   exact ⟨rfl, (hC2).trans hC9 (fun _ h _ => h)⟩
  | some t =>
   obtain ⟨htl, r, hpr⟩ := printL_some hp
   have HPA : Hid (∀ w', Calls Tryz.prog 10 #[.string (bstr t)] w' fun e w'' => Chg (fun _ => False) w' w'' ∧ ∃ B cc, e = .returned (.tuple #[.slice B a.length cc, .int .i64 0, .int .i64 0]) ∧ Rep w'' (fun k => w'.heap.size ≤ k) (.sl 39 2 (Lst.ds a)) [.slice B a.length cc]) :=
    Lib.hid (fun w' => by
     have h := Parse_calls (bstr t) w' (4 * t.length + 5) (by rw [bstr_size]; exact Nat.le_refl _) (by rw [bstr_size]; exact htl)
     rw [bstr_toList, hpr] at h
     exact h)
   rw [hp] at HP HP2
   simp only [strOf, errOf] at HP HP2
   generalize bstr t = tb at *
   clear h1 hn1 hsm hp g1 hb hpr htl
   go_enter Tryz.func3, Tryz.ntmps3
   go_wp2_with fail
   refine Calls.mono hS1.out ?_
   rintro e w1 ⟨rfl, hC1⟩
   clear hS1
   go_wp2_with fail
   refine Calls.mono (HP.out _ hC1) ?_
   rintro e w2 ⟨rfl, hC⟩
   have hC2 := hC1.trans hC (fun _ h _ => h)
   clear hC hC1 HP
   go_wp2_with fail
   refine Calls.mono (HPA.out _) ?_
   rintro e w3 ⟨hC3, B, cc, rfl, hO⟩
   have HP3 := Lib.hid (HP2.out _ _ _ _ hC2 hC3 hO)
   have hC4 := hC2.trans hC3 (fun _ h _ => h)
   have HO := Lib.hid hO
   clear HPA HP2 hC2 hC3 hO
   generalize a.length = al at *
   go_wp2_with fail
   refine Calls.mono HP3.out ?_
   rintro e w4 ⟨rfl, hC5⟩
   have HR2 := Lib.hid (HR.out w4 _ _ (hC4.trans hC5 (fun _ h _ => h)) (HO.out.stay hC5 (fun _ _ e => e)))
   have hC6 := hC4.trans hC5 (fun _ h _ => h)
   clear HP3 HR HO hC4 hC5
   go_wp2_with fail
   refine Calls.mono HR2.out ?_
   rintro e w5 ⟨rfl, hC7⟩
   have hC8 := hC6.trans hC7 (fun _ h _ => h)
   clear HR2 hC6 hC7
   go_wp2_with fail
   refine Calls.mono (HAW.out _ hC8) ?_
   rintro e w9 ⟨rfl, hC9⟩
   go_wp2
   go_ret
   exact ⟨rfl, (hC8).trans hC9 (fun _ h _ => h)⟩
end Go.Proofs.YtdfnkmiabmjolaaGreatDoor
