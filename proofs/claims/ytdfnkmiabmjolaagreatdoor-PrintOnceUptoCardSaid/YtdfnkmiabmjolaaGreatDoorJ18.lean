/- What a reading of the arguments tells, as plain data, with its bulk: no greater than the reading's own. And what stands with it. -/
import Derived.Test.YtdfnkmiabmjolaaGreatDoorJ17
import Derived.Test.YtdfnkmiabmjolaaGreatDoorRows
set_option linter.unusedVariables false
set_option linter.unusedSimpArgs false
namespace Go.Proofs.YtdfnkmiabmjolaaGreatDoor
open Go.RowKit
mutual
def D.bulk : D → Nat
 | .int _ _ => 1
 | .bool _ => 1
 | .str s => s.size + 1
 | .st ds => D.bulks ds + 1
 | .sl _ _ xs => D.bulks xs + 1
def D.bulks : List D → Nat
 | [] => 0
 | d :: ds => d.bulk + D.bulks ds
end
theorem bulks_le {H : Type} : ∀ (l : List (D × List Value)) (E : List (DataW H × List MemPlace)), l.length = E.length → (∀ (i : Nat) x e, l[i]? = some x → E[i]? = some e → x.1.bulk ≤ Rows.uptoBulk e.1) → D.bulks (l.map (·.1)) ≤ Rows.uptoBulkAll (E.map (·.1))
 | [], [], _, _ => Nat.le_refl _
 | [], _ :: _, h, _ => by simp at h
 | _ :: _, [], h, _ => by simp at h
 | x :: l, e :: E, h, hx => by
  have h1 := hx 0 x e rfl rfl
  have h2 := bulks_le l E (by simpa using h) (fun i y f hy hf => hx (i + 1) y f (by simpa using hy) (by simpa using hf))
  simp only [List.map_cons, D.bulks, Rows.uptoBulkAll]
  omega
section
variable {H : Type} {enc : TypeId × Value → H} {P : Program} {w : World} {base : Nat} {spare : Nat → Bool} {held : Bool}
theorem open_fieldsB {T : List TypeId} {n : Nat} (IH : ∀ t cs (x : DataW H × List MemPlace), t ∈ T → DataW.trod enc P w base spare held n t cs = some x → (∀ m ∈ x.1.weights P t, m ≤ reachBytes) → ∃ D, Rep w (fun _ => True) D cs ∧ Fit P t D ∧ D.bulk ≤ Rows.uptoBulk x.1) (cs : List Value) :
  ∀ (fl : List Field) (xl : List (DataW H × List MemPlace)) (o : Nat), offsB P o fl cs.length = true → xl.length = fl.length →
   (∀ (i : Nat) (f : Field), fl[i]? = some f → DataW.trod enc P w base spare held n f.type ((cs.drop f.offset).take (P.cellsOf f.type)) = xl[i]?) → (∀ f ∈ fl, f.type ∈ T) →
   (∀ m ∈ DataW.weightsEach P (fl.map (·.type)) (xl.map (·.1)), m ≤ reachBytes) → ∃ ds, RepF w (fun _ => True) ds (cs.drop o) ∧ FitF P (fl.map (·.type)) ds ∧ D.bulks ds ≤ Rows.uptoBulkAll (xl.map (·.1))
 | [], xl, o, ho, _, _, _, _ => by
  simp only [offsB, beq_iff_eq] at ho
  refine ⟨[], ?_, ?_, ?_⟩
  ·show cs.drop o = []
   rw [ho]; simp
  ·trivial
  ·simp [D.bulks]
 | f :: fl, [], o, _, hl, _, _, _ => by simp at hl
 | f :: fl, x :: xl, o, ho, hl, hx, hT, hw => by
  simp only [offsB, Bool.and_eq_true, beq_iff_eq] at ho
  have h0 := hx 0 f rfl
  rw [ho.1] at h0
  simp only [List.map_cons, DataW.weightsEach] at hw
  obtain ⟨D1, hD, hF, hB⟩ := IH f.type _ x (hT f (by simp)) h0 (fun m hm => hw m (List.mem_append_left _ hm))
  obtain ⟨ds, h1, h2, h3⟩ := open_fieldsB IH cs fl xl (o + P.cellsOf f.type) ho.2 (by simpa using hl) (fun i g hg => by simpa using hx (i + 1) g (by simpa using hg)) (fun g hg => hT g (by simp [hg])) (fun m hm => hw m (List.mem_append_right _ hm))
  refine ⟨D1 :: ds, ⟨_, _, ?_, hD, h1⟩, ⟨hF, h2⟩, ?_⟩
  ·rw [← List.drop_drop, List.take_append_drop]
  ·simp only [List.map_cons, D.bulks, Rows.uptoBulkAll]
   omega
theorem open_trodB {T : List TypeId} (hG : goodB P T = true) : ∀ (fuel : Nat) (t : TypeId) (cs : List Value) (x : DataW H × List MemPlace), t ∈ T → DataW.trod enc P w base spare held fuel t cs = some x → (∀ m ∈ x.1.weights P t, m ≤ reachBytes) →
  ∃ D, Rep w (fun _ => True) D cs ∧ Fit P t D ∧ D.bulk ≤ Rows.uptoBulk x.1
 | 0, t, cs, x, _, h, _ => by simp [DataW.trod] at h
 | fuel + 1, t, cs, x, hT, h, hw => by
  have hg := List.all_eq_true.1 hG t hT
  have hr := reachBytes_lt
  split at hg
  ·rename_i ht
   obtain ⟨b, rfl, rfl⟩ := DataW.trod_bool ht h
   exact ⟨.bool b, rfl, ht, Nat.le_refl _⟩
  ·rename_i k ht
   obtain ⟨n, rfl, rfl, hwf⟩ := DataW.trod_int ht h
   exact ⟨.int k n, rfl, ⟨ht, hwf⟩, Nat.le_refl _⟩
  ·rename_i ht
   obtain ⟨s, rfl, rfl, hs⟩ := DataW.trod_string ht h
   have := hw s.data.toList.length (by simp [DataW.weights])
   have hsz : s.data.toList.length = s.size := by rw [Array.length_toList]; rfl
   rw [hsz] at this
   exact ⟨.str s, rfl, ⟨ht, by omega⟩, by simp only [D.bulk, Rows.uptoBulk]; omega⟩
  ·rename_i e ht
   have he : e ∈ T := by simpa using hg
   rcases DataW.trod_slice ht h with ⟨rfl, rfl⟩ | ⟨a, len, cap, elems, rest, n, hf, rfl, rfl, hb, hl, hm, hlen, hel, _, _⟩
   ·exact ⟨.sl e (P.cellsOf e) [], ⟨none, 0, [], rfl, Nat.le_refl _, by simp [maxLen], by simp [Rd], rfl⟩, ⟨ht, rfl, trivial⟩, by simp [D.bulk, D.bulks, Rows.uptoBulk]⟩
   ·obtain rfl : fuel = n := by omega
    have key : ∀ i, i < len → ∃ y : D × List Value, y.2.length = P.cellsOf e ∧ Rep w (fun _ => True) y.1 y.2 ∧ Fit P e y.1 ∧ (∀ k, k < P.cellsOf e → w.cell? ((a.add (i * P.cellsOf e)).add k) = y.2[k]?) ∧ ∀ z, elems[i]? = some z → y.1.bulk ≤ Rows.uptoBulk z.1 := fun i hi => by
     have h1 := hel i hi
     rw [List.getElem?_eq_getElem (by omega)] at h1
     obtain ⟨cs', h2, h3⟩ := Option.bind_eq_some_iff.1 h1
     obtain ⟨_, h5, h6⟩ := World.cells?_some h2
     have hmem : (elems[i]'(by omega)).1 ∈ elems.map (·.1) := List.mem_map.2 ⟨_, List.getElem_mem _, rfl⟩
     obtain ⟨D, h7, h8, h9⟩ := open_trodB hG fuel e cs' _ he h3 (fun m hm => hw m (by
      simp only [DataW.weights, ht]
      exact List.mem_cons_of_mem _ (List.mem_append_left _ (weightsAll_mem hmem m hm))))
     exact ⟨(D, cs'), h5, h7, h8, h6, fun z hz => by
      rw [List.getElem?_eq_getElem (by omega)] at hz
      cases hz
      exact h9⟩
    obtain ⟨l, hll, hp⟩ := list_of _ len key
    have hmem : ∀ x ∈ l, x.2.length = P.cellsOf e ∧ Rep w (fun _ => True) x.1 x.2 ∧ Fit P e x.1 := fun x hx => by
     obtain ⟨i, hi⟩ := List.mem_iff_getElem?.1 hx
     exact ⟨(hp i x hi).1, (hp i x hi).2.1, (hp i x hi).2.2.1⟩
    refine ⟨.sl e (P.cellsOf e) (l.map (·.1)), ⟨some a, cap, l.flatMap (·.2), by rw [List.length_map, hll], by rw [List.length_map, hll]; exact hl, hm, ?_, rows_repE _ l (fun x hx => ⟨(hmem x hx).1, (hmem x hx).2.1⟩)⟩, ⟨ht, rfl, fitE_of (fun d hd => by
     obtain ⟨x, hx, rfl⟩ := List.mem_map.1 hd
     exact (hmem x hx).2.2)⟩, ?_⟩
    ·intro j u hj
     obtain ⟨i, k, x, rfl, hk, hi, hu⟩ := rows_get _ l (fun x hx => (hmem x hx).1) j u hj
     have hc := (hp i x hi).2.2.2.1 k hk
     rw [hu, Deep.add_add] at hc
     obtain ⟨ab, ao, spot⟩ := a
     have hspot : spot = none := by
      have hl0 : 0 < l.length := by have := (List.getElem?_eq_some_iff.1 hi).1; omega
      have h0 := (hp 0 _ (List.getElem?_eq_getElem hl0))
      have h00 := h0.2.2.2.1 0 (by omega)
      have hlen0 := h0.1
      rw [List.getElem?_eq_getElem (by omega)] at h00
      simpa [Addr.add] using World.cell?_spot h00
     subst hspot
     refine ⟨ab, ao, rfl, trivial, ?_⟩
     rw [← hc]
     congr 1
     unfold Addr.add
     split <;> simp_all
    ·have hle := bulks_le l elems (by rw [hll]; omega) (fun i x z hx hz => (hp i x hx).2.2.2.2 z hz)
     simp only [D.bulk, Rows.uptoBulk]
     omega
  ·rename_i fs ht
   obtain ⟨xs, n, hf, rfl, hl, hlen, hx⟩ := DataW.trod_struct ht h
   obtain rfl : fuel = n := by omega
   rw [Bool.and_eq_true] at hg
   obtain ⟨ds, h1, h2, h3⟩ := open_fieldsB (T := T) (n := fuel) (fun t cs x => open_trodB hG fuel t cs x) cs fs.toList xs 0 (by rw [hl]; exact hg.1) (by simpa using hlen) (fun i f hf => hx i f (by simpa using hf)) (fun f hf => by simpa using List.all_eq_true.1 hg.2 f hf)
    (fun m hm => hw m (by simp only [DataW.weights, ht]; exact hm))
   exact ⟨.st ds, h1, ⟨fs, ht, h2⟩, by simp only [D.bulk, Rows.uptoBulk]; omega⟩
  ·exact absurd hg (by simp)
end
theorem bulks_map {α : Type} (f : α → D) : ∀ xs : List α, D.bulks (xs.map f) = (xs.map fun x => (f x).bulk).sum
 | [] => rfl
 | x :: xs => by simp only [List.map_cons, D.bulks, List.sum_cons, bulks_map f xs]
theorem sum_le {α : Type} (f g : α → Nat) : ∀ xs : List α, (∀ x ∈ xs, f x + 1 ≤ g x) → (xs.map f).sum + xs.length ≤ (xs.map g).sum
 | [], _ => Nat.le_refl _
 | x :: xs, h => by
  have h1 := h x (by simp)
  have h2 := sum_le f g xs (fun y hy => h y (by simp [hy]))
  simp only [List.map_cons, List.sum_cons, List.length_cons]
  omega
mutual
theorem part_bulk : ∀ p : Part, p.wt ≤ p.d.bulk
 | .mk k q t o w => by
  have h := parts_bulk w
  rw [Part.wt, Part.d]
  simp only [D.bulk, D.bulks, bstr_size]
  omega
theorem parts_bulk : ∀ ps : List Part, Part.wts ps ≤ D.bulks (Part.ds ps)
 | [] => by simp [Part.wts]
 | p :: ps => by
  have h1 := part_bulk p
  have h2 := parts_bulk ps
  rw [Part.wts, Part.ds, D.bulks]
  omega
end
theorem word_bulk (w : List Part) : Part.wts w + 1 ≤ (wordD w).bulk := by
 have := parts_bulk w
 simp only [wordD, D.bulk]; omega
theorem words_bulk (ws : List (List Part)) : greatWords ws ≤ D.bulks (ws.map wordD) := by
 rw [bulks_map, greatWords]
 have := sum_le Part.wts (fun w => (wordD w).bulk) ws (fun w _ => word_bulk w)
 omega
theorem asg_bulk (a : Asg) : a.great + 1 ≤ a.d.bulk := by
 have := word_bulk a.word
 simp only [Asg.great, Asg.d, bytesD, D.bulk, D.bulks, bstr_size]; omega
theorem rdr_bulk (a : Rdr) : a.great + 1 ≤ a.d.bulk := by
 have := word_bulk a.word
 simp only [Rdr.great, Rdr.d, bytesD, D.bulk, D.bulks, bstr_size]; omega
mutual
theorem cmd_bulk : ∀ c : Cmd, c.great + 1 ≤ c.d.bulk
 | .mk k n xs ws co bo ot ca rs => by
  have h1 := words_bulk ws
  have h2 := sum_le Asg.great (fun a => a.d.bulk) xs (fun a _ => asg_bulk a)
  have h3 := sum_le Rdr.great (fun a => a.d.bulk) rs (fun a _ => rdr_bulk a)
  rw [← bulks_map] at h2 h3
  have h4 := ls_bulk co
  have h5 := ls_bulk bo
  have h6 := ls_bulk ot
  have h7 := cas_bulks ca
  rw [Cmd.great, Cmd.d]
  simp only [wordsD, bytesD, D.bulk, D.bulks, bstr_size]
  omega
theorem cmds_bulk : ∀ cs : List Cmd, greatCmds cs + cs.length ≤ D.bulks (Cmd.ds cs)
 | [] => by simp [greatCmds]
 | c :: cs => by
  have h1 := cmd_bulk c
  have h2 := cmds_bulk cs
  rw [greatCmds, Cmd.ds, D.bulks, List.length_cons]; omega
theorem cas_bulk : ∀ c : Cas, c.great + 1 ≤ c.d.bulk
 | .mk ps b => by
  have h1 := words_bulk ps
  have h2 := ls_bulk b
  rw [Cas.great, Cas.d]
  simp only [wordsD, D.bulk, D.bulks]; omega
theorem cas_bulks : ∀ cs : List Cas, greatCas cs + cs.length ≤ D.bulks (Cas.ds cs)
 | [] => by simp [greatCas]
 | c :: cs => by
  have h1 := cas_bulk c
  have h2 := cas_bulks cs
  rw [greatCas, Cas.ds, D.bulks, List.length_cons]; omega
theorem pip_bulk : ∀ p : Pip, p.great + 1 ≤ p.d.bulk
 | .mk n cs => by
  have h := cmds_bulk cs
  rw [Pip.great, Pip.d]
  simp only [D.bulk, D.bulks]; omega
theorem pips_bulk : ∀ ps : List Pip, greatPips ps + ps.length ≤ D.bulks (Pip.ds ps)
 | [] => by simp [greatPips]
 | c :: cs => by
  have h1 := pip_bulk c
  have h2 := pips_bulk cs
  rw [greatPips, Pip.ds, D.bulks, List.length_cons]; omega
theorem lst_bulk : ∀ l : Lst, l.great + 1 ≤ l.d.bulk
 | .mk ps os => by
  have h1 := pips_bulk ps
  have h2 := sum_le List.length (fun o => (bytesD o).bulk) os (fun o _ => by simp only [bytesD, D.bulk, bstr_size]; omega)
  rw [← bulks_map] at h2
  rw [Lst.great, Lst.d]
  simp only [D.bulk, D.bulks]; omega
theorem ls_bulk : ∀ ls : List Lst, greatLs ls ≤ D.bulks (Lst.ds ls)
 | [] => by simp [greatLs]
 | c :: cs => by
  have h1 := lst_bulk c
  have h2 := ls_bulk cs
  rw [greatLs, Lst.ds, D.bulks]; omega
end
end Go.Proofs.YtdfnkmiabmjolaaGreatDoor
