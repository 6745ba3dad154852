/- What a reading of the arguments tells, as plain data (D): for every type that leads to bools, ints, strings, slices and structs alone. And what stands with it. -/
import Derived.Test.YtdfnkmiabmjolaaGreatDoorJ13
import Derived.ChangeArms
import Derived.DataReads
import Derived.SizedLaws
import Derived.Deep.Slices
set_option linter.unusedVariables false
set_option linter.unusedSimpArgs false
namespace Go.Proofs.YtdfnkmiabmjolaaGreatDoor
open Go.RowKit
mutual
def Fit (P : Program) : TypeId → D → Prop
 | t, .int k n => P.underlying t = some (.int k) ∧ (Lit.int k n).wf = true
 | t, .bool _ => P.underlying t = some .bool
 | t, .str s => P.underlying t = some .string ∧ s.size ≤ 140737488355328
 | t, .st ds => ∃ fs, P.underlying t = some (.struct fs) ∧ FitF P (fs.toList.map (·.type)) ds
 | t, .sl e sz xs => P.underlying t = some (.slice e) ∧ sz = P.cellsOf e ∧ FitE P e xs
def FitF (P : Program) : List TypeId → List D → Prop
 | [], [] => True
 | t :: ts, d :: ds => Fit P t d ∧ FitF P ts ds
 | _, _ => False
def FitE (P : Program) : TypeId → List D → Prop
 | _, [] => True
 | t, d :: ds => Fit P t d ∧ FitE P t ds
end
theorem fitE_mem {P : Program} {t : TypeId} : ∀ {ds : List D}, FitE P t ds → ∀ d ∈ ds, Fit P t d
 | [], _, d, h => by cases h
 | x :: ds, ⟨h1, h2⟩, d, h => by
  rcases List.mem_cons.1 h with rfl | h
  ·exact h1
  ·exact fitE_mem h2 d h
theorem fitE_of {P : Program} {t : TypeId} : ∀ {ds : List D}, (∀ d ∈ ds, Fit P t d) → FitE P t ds
 | [], _ => trivial
 | x :: ds, h => ⟨h x (by simp), fitE_of (fun d hd => h d (by simp [hd]))⟩
def offsB (P : Program) : Nat → List Field → Nat → Bool
 | o, [], n => o == n
 | o, f :: fs, n => f.offset == o && offsB P (o + P.cellsOf f.type) fs n
def goodB (P : Program) (T : List TypeId) : Bool := T.all fun t => match P.underlying t with
 | some .bool => true
 | some (.int _) => true
 | some .string => true
 | some (.slice e) => T.contains e
 | some (.struct fs) => offsB P 0 fs.toList (P.cellsOf t) && fs.toList.all (fun f => T.contains f.type)
 | _ => false
section
variable {w : World} {S : Nat → Prop}
theorem rows_repE (sz : Nat) : ∀ (l : List (D × List Value)), (∀ x ∈ l, x.2.length = sz ∧ Rep w S x.1 x.2) → RepE w S sz (l.map (·.1)) (l.flatMap (·.2))
 | [], _ => rfl
 | x :: l, h => ⟨x.2, l.flatMap (·.2), by simp, (h x (by simp)).1, (h x (by simp)).2, rows_repE sz l (fun y hy => h y (by simp [hy]))⟩
theorem rows_get {α : Type} (sz : Nat) : ∀ (l : List (α × List Value)), (∀ x ∈ l, x.2.length = sz) → ∀ j u, (l.flatMap (·.2))[j]? = some u → ∃ i k x, j = i * sz + k ∧ k < sz ∧ l[i]? = some x ∧ x.2[k]? = some u
 | [], _, j, u, h => by simp at h
 | x :: l, h, j, u, hj => by
  have hx := h x (by simp)
  rw [List.flatMap_cons] at hj
  by_cases hlt : j < sz
  ·rw [List.getElem?_append_left (by omega)] at hj
   exact ⟨0, j, x, by omega, hlt, rfl, hj⟩
  ·rw [List.getElem?_append_right (by omega)] at hj
   obtain ⟨i, k, y, h1, h2, h3, h4⟩ := rows_get sz l (fun y hy => h y (by simp [hy])) _ u hj
   exact ⟨i + 1, k, y, by rw [Nat.add_mul]; omega, h2, by simpa using h3, h4⟩
theorem list_of {α : Type} (p : Nat → α → Prop) : ∀ n, (∀ i, i < n → ∃ x, p i x) → ∃ l : List α, l.length = n ∧ ∀ i x, l[i]? = some x → p i x
 | 0, _ => ⟨[], rfl, fun i x h => by simp at h⟩
 | n + 1, h => by
  obtain ⟨l, hl, hp⟩ := list_of p n (fun i hi => h i (by omega))
  obtain ⟨x, hx⟩ := h n (by omega)
  refine ⟨l ++ [x], by simp [hl], fun i y hy => ?_⟩
  by_cases hi : i < n
  ·rw [List.getElem?_append_left (by omega)] at hy
   exact hp i y hy
  ·rw [List.getElem?_append_right (by omega)] at hy
   have : i = n := by
    have := (List.getElem?_eq_some_iff.1 hy).1
    simp at this
    omega
   subst this
   rw [hl] at hy
   simp at hy
   subst hy
   exact hx
end
theorem weightsAll_mem {H : Type} {P : Program} {e : TypeId} {d : DataW H} : ∀ {ds : List (DataW H)}, d ∈ ds → ∀ n ∈ d.weights P e, n ∈ DataW.weightsAll P e ds
 | [], h, _, _ => by cases h
 | x :: ds, h, n, hn => by
  rw [DataW.weightsAll]
  rcases List.mem_cons.1 h with rfl | h
  ·exact List.mem_append_left _ hn
  ·exact List.mem_append_right _ (weightsAll_mem h n hn)
section
variable {H : Type} {enc : TypeId × Value → H} {P : Program} {w : World} {base : Nat} {spare : Nat → Bool} {held : Bool}
theorem open_fields {T : List TypeId} {n : Nat} (IH : ∀ t cs (x : DataW H × List MemPlace), t ∈ T → DataW.trod enc P w base spare held n t cs = some x → (∀ m ∈ x.1.weights P t, m ≤ reachBytes) → ∃ D, Rep w (fun _ => True) D cs ∧ Fit P t D) (cs : List Value) :
  ∀ (fl : List Field) (xl : List (DataW H × List MemPlace)) (o : Nat), offsB P o fl cs.length = true → xl.length = fl.length →
   (∀ (i : Nat) (f : Field), fl[i]? = some f → DataW.trod enc P w base spare held n f.type ((cs.drop f.offset).take (P.cellsOf f.type)) = xl[i]?) → (∀ f ∈ fl, f.type ∈ T) →
   (∀ m ∈ DataW.weightsEach P (fl.map (·.type)) (xl.map (·.1)), m ≤ reachBytes) → ∃ ds, RepF w (fun _ => True) ds (cs.drop o) ∧ FitF P (fl.map (·.type)) ds
 | [], xl, o, ho, _, _, _, _ => by
  simp only [offsB, beq_iff_eq] at ho
  refine ⟨[], ?_, ?_⟩
  ·show cs.drop o = []
   rw [ho]; simp
  ·trivial
 | f :: fl, [], o, _, hl, _, _, _ => by simp at hl
 | f :: fl, x :: xl, o, ho, hl, hx, hT, hw => by
  simp only [offsB, Bool.and_eq_true, beq_iff_eq] at ho
  have h0 := hx 0 f rfl
  rw [ho.1] at h0
  simp only [List.map_cons, DataW.weightsEach] at hw
  obtain ⟨D, hD, hF⟩ := IH f.type _ x (hT f (by simp)) h0 (fun m hm => hw m (List.mem_append_left _ hm))
  obtain ⟨ds, h1, h2⟩ := open_fields IH cs fl xl (o + P.cellsOf f.type) ho.2 (by simpa using hl) (fun i g hg => by simpa using hx (i + 1) g (by simpa using hg)) (fun g hg => hT g (by simp [hg])) (fun m hm => hw m (List.mem_append_right _ hm))
  refine ⟨D :: ds, ⟨_, _, ?_, hD, h1⟩, hF, h2⟩
  rw [← List.drop_drop, List.take_append_drop]
theorem open_trod {T : List TypeId} (hG : goodB P T = true) : ∀ (fuel : Nat) (t : TypeId) (cs : List Value) (x : DataW H × List MemPlace), t ∈ T → DataW.trod enc P w base spare held fuel t cs = some x → (∀ m ∈ x.1.weights P t, m ≤ reachBytes) →
  ∃ D, Rep w (fun _ => True) D cs ∧ Fit P t D
 | 0, t, cs, x, _, h, _ => by simp [DataW.trod] at h
 | fuel + 1, t, cs, x, hT, h, hw => by
  have hg := List.all_eq_true.1 hG t hT
  have hr := reachBytes_lt
  split at hg
  ·rename_i ht
   obtain ⟨b, rfl, rfl⟩ := DataW.trod_bool ht h
   exact ⟨.bool b, rfl, ht⟩
  ·rename_i k ht
   obtain ⟨n, rfl, rfl, hwf⟩ := DataW.trod_int ht h
   exact ⟨.int k n, rfl, ht, hwf⟩
  ·rename_i ht
   obtain ⟨s, rfl, rfl, hs⟩ := DataW.trod_string ht h
   have := hw s.data.toList.length (by simp [DataW.weights])
   rw [show s.data.toList.length = s.size by rw [Array.length_toList]; rfl] at this
   exact ⟨.str s, rfl, ht, by omega⟩
  ·rename_i e ht
   have he : e ∈ T := by simpa using hg
   rcases DataW.trod_slice ht h with ⟨rfl, rfl⟩ | ⟨a, len, cap, elems, rest, n, hf, rfl, rfl, hb, hl, hm, hlen, hel, _, _⟩
   ·exact ⟨.sl e (P.cellsOf e) [], ⟨none, 0, [], rfl, Nat.le_refl _, by simp [maxLen], by simp [Rd], rfl⟩, ht, rfl, trivial⟩
   ·obtain rfl : fuel = n := by omega
    have key : ∀ i, i < len → ∃ y : D × List Value, y.2.length = P.cellsOf e ∧ Rep w (fun _ => True) y.1 y.2 ∧ Fit P e y.1 ∧ ∀ k, k < P.cellsOf e → w.cell? ((a.add (i * P.cellsOf e)).add k) = y.2[k]? := fun i hi => by
     have h1 := hel i hi
     rw [List.getElem?_eq_getElem (by omega)] at h1
     obtain ⟨cs', h2, h3⟩ := Option.bind_eq_some_iff.1 h1
     obtain ⟨_, h5, h6⟩ := World.cells?_some h2
     have hmem : (elems[i]'(by omega)).1 ∈ elems.map (·.1) := List.mem_map.2 ⟨_, List.getElem_mem _, rfl⟩
     obtain ⟨D, h7, h8⟩ := open_trod hG fuel e cs' _ he h3 (fun m hm => hw m (by
      simp only [DataW.weights, ht]
      exact List.mem_cons_of_mem _ (List.mem_append_left _ (weightsAll_mem hmem m hm))))
     exact ⟨(D, cs'), h5, h7, h8, h6⟩
    obtain ⟨l, hll, hp⟩ := list_of _ len key
    have hmem : ∀ x ∈ l, x.2.length = P.cellsOf e ∧ Rep w (fun _ => True) x.1 x.2 ∧ Fit P e x.1 := fun x hx => by
     obtain ⟨i, hi⟩ := List.mem_iff_getElem?.1 hx
     exact ⟨(hp i x hi).1, (hp i x hi).2.1, (hp i x hi).2.2.1⟩
    refine ⟨.sl e (P.cellsOf e) (l.map (·.1)), ⟨some a, cap, l.flatMap (·.2), by rw [List.length_map, hll], by rw [List.length_map, hll]; exact hl, hm, ?_, rows_repE _ l (fun x hx => ⟨(hmem x hx).1, (hmem x hx).2.1⟩)⟩, ht, rfl, fitE_of (fun d hd => by
     obtain ⟨x, hx, rfl⟩ := List.mem_map.1 hd
     exact (hmem x hx).2.2)⟩
    intro j u hj
    obtain ⟨i, k, x, rfl, hk, hi, hu⟩ := rows_get _ l (fun x hx => (hmem x hx).1) j u hj
    have hc := (hp i x hi).2.2.2 k hk
    rw [hu, Deep.add_add] at hc
    obtain ⟨ab, ao, spot⟩ := a
    have hspot : spot = none := by
     have hl0 : 0 < l.length := by have := (List.getElem?_eq_some_iff.1 hi).1; omega
     have h0 := (hp 0 _ (List.getElem?_eq_getElem hl0))
     have h00 := h0.2.2.2 0 (by omega)
     have hlen0 := h0.1
     rw [List.getElem?_eq_getElem (by omega)] at h00
     simpa [Addr.add] using World.cell?_spot h00
    subst hspot
    refine ⟨ab, ao, rfl, trivial, ?_⟩
    rw [← hc]
    congr 1
    unfold Addr.add
    split <;> simp_all
  ·rename_i fs ht
   obtain ⟨xs, n, hf, rfl, hl, hlen, hx⟩ := DataW.trod_struct ht h
   obtain rfl : fuel = n := by omega
   rw [Bool.and_eq_true] at hg
   obtain ⟨ds, h1, h2⟩ := open_fields (T := T) (n := fuel) (fun t cs x => open_trod hG fuel t cs x) cs fs.toList xs 0 (by rw [hl]; exact hg.1) (by simpa using hlen) (fun i f hf => hx i f (by simpa using hf)) (fun f hf => by simpa using List.all_eq_true.1 hg.2 f hf)
    (fun m hm => hw m (by simp only [DataW.weights, ht]; exact hm))
   exact ⟨.st ds, h1, fs, ht, h2⟩
  ·exact absurd hg (by simp)
end
section
variable {P : Program} {t e : TypeId} {d : D}
theorem fit_int {k : IntKind} (ht : P.underlying t = some (.int k)) (h : Fit P t d) : ∃ n, d = .int k n ∧ (Lit.int k n).wf = true := by
 cases d with
 | int k' n =>
  obtain ⟨h1, h2⟩ := h
  rw [ht] at h1
  cases h1
  exact ⟨n, rfl, h2⟩
 | bool _ => have h : P.underlying t = _ := h; rw [ht] at h; cases h
 | str _ => have h := h.1; rw [ht] at h; cases h
 | st _ => obtain ⟨_, h, _⟩ := h; rw [ht] at h; cases h
 | sl _ _ _ => have h := h.1; rw [ht] at h; cases h
theorem fit_bool (ht : P.underlying t = some .bool) (h : Fit P t d) : ∃ b, d = .bool b := by
 cases d with
 | int _ _ => have h := h.1; rw [ht] at h; cases h
 | bool b => exact ⟨b, rfl⟩
 | str _ => have h := h.1; rw [ht] at h; cases h
 | st _ => obtain ⟨_, h, _⟩ := h; rw [ht] at h; cases h
 | sl _ _ _ => have h := h.1; rw [ht] at h; cases h
theorem fit_str (ht : P.underlying t = some .string) (h : Fit P t d) : ∃ s, d = .str s ∧ s.size ≤ 140737488355328 := by
 cases d with
 | int _ _ => have h := h.1; rw [ht] at h; cases h
 | bool _ => have h : P.underlying t = _ := h; rw [ht] at h; cases h
 | str s => exact ⟨s, rfl, h.2⟩
 | st _ => obtain ⟨_, h, _⟩ := h; rw [ht] at h; cases h
 | sl _ _ _ => have h := h.1; rw [ht] at h; cases h
theorem fit_sl (ht : P.underlying t = some (.slice e)) (h : Fit P t d) : ∃ xs, d = .sl e (P.cellsOf e) xs ∧ FitE P e xs := by
 cases d with
 | int _ _ => have h := h.1; rw [ht] at h; cases h
 | bool _ => have h : P.underlying t = _ := h; rw [ht] at h; cases h
 | str _ => have h := h.1; rw [ht] at h; cases h
 | st _ => obtain ⟨_, h, _⟩ := h; rw [ht] at h; cases h
 | sl e' sz xs =>
  obtain ⟨h1, h2, h3⟩ := h
  rw [ht] at h1
  cases h1
  subst h2
  exact ⟨xs, rfl, h3⟩
theorem fit_st {fs : Array Field} (ht : P.underlying t = some (.struct fs)) (h : Fit P t d) : ∃ ds, d = .st ds ∧ FitF P (fs.toList.map (·.type)) ds := by
 cases d with
 | int _ _ => have h := h.1; rw [ht] at h; cases h
 | bool _ => have h : P.underlying t = _ := h; rw [ht] at h; cases h
 | str _ => have h := h.1; rw [ht] at h; cases h
 | st ds =>
  obtain ⟨fs', h1, h2⟩ := h
  rw [ht] at h1
  cases h1
  exact ⟨ds, rfl, h2⟩
 | sl _ _ _ => have h := h.1; rw [ht] at h; cases h
theorem fitF_cons {t1 : TypeId} {ts : List TypeId} {ds : List D} (h : FitF P (t1 :: ts) ds) : ∃ d ds', ds = d :: ds' ∧ Fit P t1 d ∧ FitF P ts ds' := by
 cases ds with
 | nil => exact h.elim
 | cons d ds' => exact ⟨d, ds', rfl, h.1, h.2⟩
theorem fitF_nil {ds : List D} (h : FitF P [] ds) : ds = [] := by
 cases ds with
 | nil => rfl
 | cons d ds' => exact h.elim
end
theorem list_off {α : Type} (f : α → D) (Q : α → Prop) : ∀ xs : List D, (∀ d ∈ xs, ∃ a, d = f a ∧ Q a) → ∃ l : List α, xs = l.map f ∧ ∀ a ∈ l, Q a
 | [], _ => ⟨[], rfl, fun _ h => by cases h⟩
 | x :: xs, h => by
  obtain ⟨a, rfl, ha⟩ := h x (by simp)
  obtain ⟨l, rfl, hl⟩ := list_off f Q xs (fun d hd => h d (by simp [hd]))
  exact ⟨a :: l, rfl, fun b hb => by
   rcases List.mem_cons.1 hb with rfl | hb
   ·exact ha
   ·exact hl b hb⟩
theorem lims_of : ∀ ps : List Part, (∀ p ∈ ps, p.lim) → Part.lims ps
 | [], _ => trivial
 | p :: ps, h => ⟨h p (by simp), lims_of ps (fun q hq => h q (by simp [hq]))⟩
theorem bstr_off (s : ByteArray) : ∃ t : Bytes, s = bstr t ∧ t.length = s.size := ⟨s.data.toList, (bstr_of s).symm, len_data s⟩
theorem cellsTryzPart : Tryz.prog.cellsOf 103 = 5 := by kernel_rfl
set_option maxRecDepth 100000 in
theorem fit_part : ∀ (n : Nat) (d : D), SizeOf.sizeOf d ≤ n → Fit Tryz.prog 103 d → ∃ p : Part, d = p.d ∧ p.lim
 | 0, d, hn, _ => by cases d <;> simp at hn
 | n + 1, d, hn, h => by
  obtain ⟨ds, rfl, hf⟩ := fit_st Tryz.underlying103 h
  replace h : FitF Tryz.prog [3, 4, 9, 9, 70] ds := hf
  obtain ⟨d1, ds, rfl, h1, h⟩ := fitF_cons h
  obtain ⟨d2, ds, rfl, h2, h⟩ := fitF_cons h
  obtain ⟨d3, ds, rfl, h3, h⟩ := fitF_cons h
  obtain ⟨d4, ds, rfl, h4, h⟩ := fitF_cons h
  obtain ⟨d5, ds, rfl, h5, h⟩ := fitF_cons h
  obtain rfl := fitF_nil h
  obtain ⟨k, rfl, _⟩ := fit_int Tryz.underlying3 h1
  obtain ⟨q, rfl⟩ := fit_bool Tryz.underlying4 h2
  obtain ⟨s3, rfl, l3⟩ := fit_str Tryz.underlying9 h3
  obtain ⟨s4, rfl, l4⟩ := fit_str Tryz.underlying9 h4
  obtain ⟨xs, rfl, hx⟩ := fit_sl Tryz.underlying70 h5
  obtain ⟨t3, rfl, e3⟩ := bstr_off s3
  obtain ⟨t4, rfl, e4⟩ := bstr_off s4
  obtain ⟨ps, rfl, hp⟩ := list_off Part.d Part.lim xs (fun x hx' => fit_part n x (by
   have := List.sizeOf_lt_of_mem hx'
   simp only [D.st.sizeOf_spec, List.cons.sizeOf_spec, List.nil.sizeOf_spec, D.sl.sizeOf_spec] at hn
   omega) (fitE_mem hx x hx'))
  refine ⟨.mk k q t3 t4 ps, ?_, by omega, by omega, lims_of ps hp⟩
  rw [Part.d, Part.ds_map, cellsTryzPart]
theorem fit_parts {d : D} (h : Fit Tryz.prog 70 d) : ∃ ps : List Part, d = .sl 103 5 (Part.ds ps) ∧ Part.lims ps := by
 obtain ⟨xs, rfl, hx⟩ := fit_sl Tryz.underlying70 h
 obtain ⟨ps, rfl, hp⟩ := list_off Part.d Part.lim xs (fun x hx' => fit_part _ x (Nat.le_refl _) (fitE_mem hx x hx'))
 exact ⟨ps, by rw [Part.ds_map, cellsTryzPart], lims_of ps hp⟩
theorem cellsTryzWord : Tryz.prog.cellsOf 70 = 1 := by kernel_rfl
theorem cellsTryzStr : Tryz.prog.cellsOf 9 = 1 := by kernel_rfl
theorem cellsTryzAsg : Tryz.prog.cellsOf 72 = 2 := by kernel_rfl
theorem cellsTryzRdr : Tryz.prog.cellsOf 75 = 3 := by kernel_rfl
theorem cellsTryzCmd : Tryz.prog.cellsOf 49 = 9 := by kernel_rfl
theorem cellsTryzCas : Tryz.prog.cellsOf 77 = 2 := by kernel_rfl
theorem cellsTryzPip : Tryz.prog.cellsOf 42 = 2 := by kernel_rfl
theorem cellsTryzLst : Tryz.prog.cellsOf 39 = 2 := by kernel_rfl
theorem fit_words {d : D} (h : Fit Tryz.prog 45 d) : ∃ ws : List (List Part), d = wordsD ws ∧ limWords ws := by
 obtain ⟨xs, rfl, hx⟩ := fit_sl Tryz.underlying45 h
 obtain ⟨ws, rfl, hw⟩ := list_off wordD Part.lims xs (fun x hx' => fit_parts (fitE_mem hx x hx'))
 exact ⟨ws, by rw [wordsD, cellsTryzWord], hw⟩
theorem fit_strs {d : D} (h : Fit Tryz.prog 37 d) : ∃ os : List Bytes, d = .sl 9 1 (os.map bytesD) := by
 obtain ⟨xs, rfl, hx⟩ := fit_sl Tryz.underlying37 h
 obtain ⟨os, rfl, hw⟩ := list_off bytesD (fun _ => True) xs (fun x hx' => by
  obtain ⟨s, rfl, _⟩ := fit_str Tryz.underlying9 (fitE_mem hx x hx')
  obtain ⟨t, rfl, _⟩ := bstr_off s
  exact ⟨t, rfl, trivial⟩)
 exact ⟨os, by rw [cellsTryzStr]⟩
theorem fit_asg {d : D} (h : Fit Tryz.prog 72 d) : ∃ a : Asg, d = a.d ∧ Part.lims a.word := by
 obtain ⟨ds, rfl, hf⟩ := fit_st Tryz.underlying72 h
 replace h : FitF Tryz.prog [9, 70] ds := hf
 obtain ⟨d1, ds, rfl, h1, h⟩ := fitF_cons h
 obtain ⟨d2, ds, rfl, h2, h⟩ := fitF_cons h
 obtain rfl := fitF_nil h
 obtain ⟨s, rfl, _⟩ := fit_str Tryz.underlying9 h1
 obtain ⟨t, rfl, _⟩ := bstr_off s
 obtain ⟨w, rfl, hw⟩ := fit_parts h2
 exact ⟨⟨t, w⟩, rfl, hw⟩
theorem fit_rdr {d : D} (h : Fit Tryz.prog 75 d) : ∃ r : Rdr, d = r.d ∧ Part.lims r.word ∧ r.fdOk := by
 obtain ⟨ds, rfl, hf⟩ := fit_st Tryz.underlying75 h
 replace h : FitF Tryz.prog [3, 9, 70] ds := hf
 obtain ⟨d1, ds, rfl, h1, h⟩ := fitF_cons h
 obtain ⟨d2, ds, rfl, h2, h⟩ := fitF_cons h
 obtain ⟨d3, ds, rfl, h3, h⟩ := fitF_cons h
 obtain rfl := fitF_nil h
 obtain ⟨k, rfl, hk⟩ := fit_int Tryz.underlying3 h1
 obtain ⟨s, rfl, _⟩ := fit_str Tryz.underlying9 h2
 obtain ⟨t, rfl, _⟩ := bstr_off s
 obtain ⟨w, rfl, hw⟩ := fit_parts h3
 refine ⟨⟨k, t, w⟩, rfl, hw, ?_⟩
 have h1 : IntKind.i64.min = -9223372036854775808 := by decide
 have h2 : IntKind.i64.max = 9223372036854775807 := by decide
 simpa [Rdr.fdOk, Lit.wf, h1, h2] using hk
theorem limLs_of : ∀ l : List Lst, (∀ x ∈ l, x.lim) → limLs l
 | [], _ => by rw [limLs]; trivial
 | x :: l, h => by rw [limLs]; exact ⟨h x (by simp), limLs_of l (fun y hy => h y (by simp [hy]))⟩
theorem limPips_of : ∀ l : List Pip, (∀ x ∈ l, x.lim) → limPips l
 | [], _ => by rw [limPips]; trivial
 | x :: l, h => by rw [limPips]; exact ⟨h x (by simp), limPips_of l (fun y hy => h y (by simp [hy]))⟩
theorem limCmds_of : ∀ l : List Cmd, (∀ x ∈ l, x.lim) → limCmds l
 | [], _ => by rw [limCmds]; trivial
 | x :: l, h => by rw [limCmds]; exact ⟨h x (by simp), limCmds_of l (fun y hy => h y (by simp [hy]))⟩
theorem limCas_of : ∀ l : List Cas, (∀ x ∈ l, x.lim) → limCas l
 | [], _ => by rw [limCas]; trivial
 | x :: l, h => by rw [limCas]; exact ⟨h x (by simp), limCas_of l (fun y hy => h y (by simp [hy]))⟩
theorem fdLs_of : ∀ l : List Lst, (∀ x ∈ l, x.fds) → fdLs l
 | [], _ => by rw [fdLs]; trivial
 | x :: l, h => by rw [fdLs]; exact ⟨h x (by simp), fdLs_of l (fun y hy => h y (by simp [hy]))⟩
theorem fdPips_of : ∀ l : List Pip, (∀ x ∈ l, x.fds) → fdPips l
 | [], _ => by rw [fdPips]; trivial
 | x :: l, h => by rw [fdPips]; exact ⟨h x (by simp), fdPips_of l (fun y hy => h y (by simp [hy]))⟩
theorem fdCmds_of : ∀ l : List Cmd, (∀ x ∈ l, x.fds) → fdCmds l
 | [], _ => by rw [fdCmds]; trivial
 | x :: l, h => by rw [fdCmds]; exact ⟨h x (by simp), fdCmds_of l (fun y hy => h y (by simp [hy]))⟩
theorem fdCas_of : ∀ l : List Cas, (∀ x ∈ l, x.fds) → fdCas l
 | [], _ => by rw [fdCas]; trivial
 | x :: l, h => by rw [fdCas]; exact ⟨h x (by simp), fdCas_of l (fun y hy => h y (by simp [hy]))⟩
def LstFit (n : Nat) : Prop := ∀ d : D, SizeOf.sizeOf d < n → Fit Tryz.prog 39 d → ∃ l : Lst, d = l.d ∧ l.lim ∧ l.fds
theorem ls_fit {n : Nat} (IH : LstFit n) {d : D} (hn : SizeOf.sizeOf d < n) (h : Fit Tryz.prog 22 d) : ∃ ls : List Lst, d = .sl 39 2 (Lst.ds ls) ∧ limLs ls ∧ fdLs ls := by
 obtain ⟨xs, rfl, hx⟩ := fit_sl Tryz.underlying22 h
 obtain ⟨ls, rfl, hl⟩ := list_off Lst.d (fun l => l.lim ∧ l.fds) xs (fun x hx' => IH x (by
  have := List.sizeOf_lt_of_mem hx'
  simp only [D.sl.sizeOf_spec] at hn
  omega) (fitE_mem hx x hx'))
 exact ⟨ls, by rw [Lst.ds_map, cellsTryzLst], limLs_of ls (fun x hx => (hl x hx).1), fdLs_of ls (fun x hx => (hl x hx).2)⟩
theorem cas_fit {n : Nat} (IH : LstFit n) {d : D} (hn : SizeOf.sizeOf d < n) (h : Fit Tryz.prog 77 d) : ∃ c : Cas, d = c.d ∧ c.lim ∧ c.fds := by
 obtain ⟨ds, rfl, hf⟩ := fit_st Tryz.underlying77 h
 replace h : FitF Tryz.prog [45, 22] ds := hf
 obtain ⟨d1, ds, rfl, h1, h⟩ := fitF_cons h
 obtain ⟨d2, ds, rfl, h2, h⟩ := fitF_cons h
 obtain rfl := fitF_nil h
 obtain ⟨ws, rfl, hw⟩ := fit_words h1
 simp only [D.st.sizeOf_spec, List.cons.sizeOf_spec, List.nil.sizeOf_spec] at hn
 obtain ⟨ls, rfl, hl, hf⟩ := ls_fit IH (by omega) h2
 exact ⟨.mk ws ls, by rw [Cas.d], by rw [Cas.lim]; exact ⟨hw, hl⟩, by rw [Cas.fds]; exact hf⟩
set_option maxHeartbeats 1000000 in
theorem cmd_fit {n : Nat} (IH : LstFit n) {d : D} (hn : SizeOf.sizeOf d < n) (h : Fit Tryz.prog 49 d) : ∃ c : Cmd, d = c.d ∧ c.lim ∧ c.fds := by
 obtain ⟨ds, rfl, hf⟩ := fit_st Tryz.underlying49 h
 replace h : FitF Tryz.prog [3, 9, 44, 45, 22, 22, 22, 46, 47] ds := hf
 obtain ⟨d1, ds, rfl, h1, h⟩ := fitF_cons h
 obtain ⟨d2, ds, rfl, h2, h⟩ := fitF_cons h
 obtain ⟨d3, ds, rfl, h3, h⟩ := fitF_cons h
 obtain ⟨d4, ds, rfl, h4, h⟩ := fitF_cons h
 obtain ⟨d5, ds, rfl, h5, h⟩ := fitF_cons h
 obtain ⟨d6, ds, rfl, h6, h⟩ := fitF_cons h
 obtain ⟨d7, ds, rfl, h7, h⟩ := fitF_cons h
 obtain ⟨d8, ds, rfl, h8, h⟩ := fitF_cons h
 obtain ⟨d9, ds, rfl, h9, h⟩ := fitF_cons h
 obtain rfl := fitF_nil h
 simp only [D.st.sizeOf_spec, List.cons.sizeOf_spec, List.nil.sizeOf_spec] at hn
 obtain ⟨k, rfl, _⟩ := fit_int Tryz.underlying3 h1
 obtain ⟨s, rfl, _⟩ := fit_str Tryz.underlying9 h2
 obtain ⟨t, rfl, _⟩ := bstr_off s
 obtain ⟨xs3, rfl, e3⟩ := fit_sl Tryz.underlying44 h3
 obtain ⟨xas, rfl, ha⟩ := list_off Asg.d (fun a => Part.lims a.word) xs3 (fun x hx' => fit_asg (fitE_mem e3 x hx'))
 obtain ⟨ws, rfl, hw⟩ := fit_words h4
 obtain ⟨co, rfl, hco, fco⟩ := ls_fit IH (by omega) h5
 obtain ⟨bo, rfl, hbo, fbo⟩ := ls_fit IH (by omega) h6
 obtain ⟨ot, rfl, hot, fot⟩ := ls_fit IH (by omega) h7
 obtain ⟨xs8, rfl, e8⟩ := fit_sl Tryz.underlying46 h8
 obtain ⟨ca, rfl, hca⟩ := list_off Cas.d (fun c => c.lim ∧ c.fds) xs8 (fun x hx' => cas_fit IH (by
  have := List.sizeOf_lt_of_mem hx'
  simp only [D.sl.sizeOf_spec] at hn
  omega) (fitE_mem e8 x hx'))
 obtain ⟨xs9, rfl, e9⟩ := fit_sl Tryz.underlying47 h9
 obtain ⟨rs, rfl, hrs⟩ := list_off Rdr.d (fun r => Part.lims r.word ∧ r.fdOk) xs9 (fun x hx' => fit_rdr (fitE_mem e9 x hx'))
 refine ⟨.mk k t xas ws co bo ot ca rs, ?_, ?_, ?_⟩
 ·rw [Cmd.d, Cas.ds_map, cellsTryzAsg, cellsTryzCas, cellsTryzRdr]; rfl
 ·rw [Cmd.lim]; exact ⟨ha, hw, hco, hbo, hot, limCas_of ca (fun x hx => (hca x hx).1), fun x hx => (hrs x hx).1⟩
 ·rw [Cmd.fds]; exact ⟨fun x hx => (hrs x hx).2, fco, fbo, fot, fdCas_of ca (fun x hx => (hca x hx).2)⟩
theorem pip_fit {n : Nat} (IH : LstFit n) {d : D} (hn : SizeOf.sizeOf d < n) (h : Fit Tryz.prog 42 d) : ∃ p : Pip, d = p.d ∧ p.lim ∧ p.fds := by
 obtain ⟨ds, rfl, hf⟩ := fit_st Tryz.underlying42 h
 replace h : FitF Tryz.prog [4, 40] ds := hf
 obtain ⟨d1, ds, rfl, h1, h⟩ := fitF_cons h
 obtain ⟨d2, ds, rfl, h2, h⟩ := fitF_cons h
 obtain rfl := fitF_nil h
 obtain ⟨q, rfl⟩ := fit_bool Tryz.underlying4 h1
 obtain ⟨xs, rfl, hx⟩ := fit_sl Tryz.underlying40 h2
 simp only [D.st.sizeOf_spec, List.cons.sizeOf_spec, List.nil.sizeOf_spec, D.sl.sizeOf_spec] at hn
 obtain ⟨cs, rfl, hc⟩ := list_off Cmd.d (fun c => c.lim ∧ c.fds) xs (fun x hx' => cmd_fit IH (by
  have := List.sizeOf_lt_of_mem hx'
  omega) (fitE_mem hx x hx'))
 exact ⟨.mk q cs, by rw [Pip.d, Cmd.ds_map, cellsTryzCmd], by rw [Pip.lim]; exact limCmds_of cs (fun x hx => (hc x hx).1), by rw [Pip.fds]; exact fdCmds_of cs (fun x hx => (hc x hx).2)⟩
theorem lst_fit : ∀ n : Nat, LstFit n
 | 0 => fun d hn => absurd hn (Nat.not_lt_zero _)
 | n + 1 => by
  intro d hn h
  obtain ⟨ds, rfl, hf⟩ := fit_st Tryz.underlying39 h
  replace h : FitF Tryz.prog [36, 37] ds := hf
  obtain ⟨d1, ds, rfl, h1, h⟩ := fitF_cons h
  obtain ⟨d2, ds, rfl, h2, h⟩ := fitF_cons h
  obtain rfl := fitF_nil h
  obtain ⟨xs, rfl, hx⟩ := fit_sl Tryz.underlying36 h1
  simp only [D.st.sizeOf_spec, List.cons.sizeOf_spec, List.nil.sizeOf_spec, D.sl.sizeOf_spec] at hn
  obtain ⟨ps, rfl, hp⟩ := list_off Pip.d (fun c => c.lim ∧ c.fds) xs (fun x hx' => pip_fit (lst_fit n) (by
   have := List.sizeOf_lt_of_mem hx'
   omega) (fitE_mem hx x hx'))
  obtain ⟨os, rfl⟩ := fit_strs h2
  exact ⟨.mk ps os, by rw [Lst.d, Pip.ds_map, cellsTryzPip], by rw [Lst.lim]; exact limPips_of ps (fun x hx => (hp x hx).1), by rw [Lst.fds]; exact fdPips_of ps (fun x hx => (hp x hx).2)⟩
theorem fit_lists {d : D} (h : Fit Tryz.prog 22 d) : ∃ ls : List Lst, d = .sl 39 2 (Lst.ds ls) ∧ limLs ls ∧ fdLs ls := ls_fit (lst_fit _) (Nat.lt_succ_self _) h
end Go.Proofs.YtdfnkmiabmjolaaGreatDoor
