/- Plain data (D), and what it means that cells of memory read as such data (Rep), or that a row of the call's own does (Own); every mover once. And what stands with it. -/
import Derived.WalkKit
import Derived.KernelRfl
import Derived.Maps.AppendAt
import Derived.StillTailTactics
import Derived.OwnWalk
import Derived.Below
import Derived.Deep.Draws
import Derived.Deep.AppendLies
set_option linter.unusedVariables false
set_option linter.unusedSimpArgs false
namespace Go.Proofs.YtdfnkmiabmjolaaGreatDoor
open Go.RowKit
inductive D where
 | int (k : IntKind) (n : Int)
 | bool (b : Bool)
 | str (s : ByteArray)
 | st (fs : List D)
 | sl (e sz : Nat) (xs : List D)
def Rd (w : World) (S : Nat → Prop) (A : Option Addr) (inner : List Value) : Prop :=
 ∀ j u, inner[j]? = some u → ∃ b o, A = some ⟨b, o, none⟩ ∧ S b ∧ w.cell? ⟨b, o + j, none⟩ = some u
mutual
def Rep (w : World) (S : Nat → Prop) : D → List Value → Prop
 | .int k n, cs => cs = [.int k n]
 | .bool b, cs => cs = [.bool b]
 | .str s, cs => cs = [.string s]
 | .st fs, cs => RepF w S fs cs
 | .sl _ sz xs, cs => ∃ A c inner, cs = [.slice A xs.length c] ∧ xs.length ≤ c ∧ c ≤ maxLen ∧ Rd w S A inner ∧ RepE w S sz xs inner
def RepF (w : World) (S : Nat → Prop) : List D → List Value → Prop
 | [], cs => cs = []
 | d :: ds, cs => ∃ c1 c2, cs = c1 ++ c2 ∧ Rep w S d c1 ∧ RepF w S ds c2
def RepE (w : World) (S : Nat → Prop) (sz : Nat) : List D → List Value → Prop
 | [], cs => cs = []
 | d :: ds, cs => ∃ c1 c2, cs = c1 ++ c2 ∧ c1.length = sz ∧ Rep w S d c1 ∧ RepE w S sz ds c2
end
def Same (S : Nat → Prop) (w w' : World) : Prop := ∀ k, S k → k < w.heap.size → w'.heap[k]? = w.heap[k]?
theorem Rd.move {w w' : World} {S S' : Nat → Prop} {A : Option Addr} {inner : List Value} (h : Rd w S A inner) (hs : Same S w w') (hS : ∀ k, S k → k < w.heap.size → S' k) : Rd w' S' A inner := by
 intro j u hj
 obtain ⟨b, o, ha, hb, hc⟩ := h j u hj
 have hlt : b < w.heap.size := World.block_lt_of_cell? w _ hc
 exact ⟨b, o, ha, hS _ hb hlt, (World.cell?_of_block (hs _ hb hlt)).trans hc⟩
mutual
theorem Rep.move {w w' : World} {S S' : Nat → Prop} (hs : Same S w w') (hS : ∀ k, S k → k < w.heap.size → S' k) : ∀ (d : D) (cs : List Value), Rep w S d cs → Rep w' S' d cs
 | .int .., _, h => h
 | .bool _, _, h => h
 | .str _, _, h => h
 | .st fs, cs, h => RepF.move hs hS fs cs h
 | .sl _ sz xs, _, ⟨A, c, inner, h1, h2, h3, h4, h5⟩ => ⟨A, c, inner, h1, h2, h3, h4.move hs hS, RepE.move hs hS sz xs inner h5⟩
theorem RepF.move {w w' : World} {S S' : Nat → Prop} (hs : Same S w w') (hS : ∀ k, S k → k < w.heap.size → S' k) : ∀ (ds : List D) (cs : List Value), RepF w S ds cs → RepF w' S' ds cs
 | [], _, h => h
 | d :: ds, _, ⟨c1, c2, h1, h2, h3⟩ => ⟨c1, c2, h1, Rep.move hs hS d c1 h2, RepF.move hs hS ds c2 h3⟩
theorem RepE.move {w w' : World} {S S' : Nat → Prop} (hs : Same S w w') (hS : ∀ k, S k → k < w.heap.size → S' k) (sz : Nat) : ∀ (ds : List D) (cs : List Value), RepE w S sz ds cs → RepE w' S' sz ds cs
 | [], _, h => h
 | d :: ds, _, ⟨c1, c2, h1, h2, h3, h4⟩ => ⟨c1, c2, h1, h2, Rep.move hs hS d c1 h3, RepE.move hs hS sz ds c2 h4⟩
end
mutual
theorem Rep.one {w : World} {S : Nat → Prop} : ∀ (d : D) (cs : List Value), Rep w S d cs → ∀ u ∈ cs, u.oneCell' = true
 | .int .., _, h => by intro u hu; cases h; cases List.mem_singleton.1 hu; rfl
 | .bool _, _, h => by intro u hu; cases h; cases List.mem_singleton.1 hu; rfl
 | .str _, _, h => by intro u hu; cases h; cases List.mem_singleton.1 hu; rfl
 | .st fs, cs, h => RepF.one fs cs h
 | .sl _ sz xs, _, ⟨A, c, inner, h1, _⟩ => by intro u hu; rw [h1] at hu; cases List.mem_singleton.1 hu; rfl
theorem RepF.one {w : World} {S : Nat → Prop} : ∀ (ds : List D) (cs : List Value), RepF w S ds cs → ∀ u ∈ cs, u.oneCell' = true
 | [], _, h => by intro u hu; cases h; cases hu
 | d :: ds, _, ⟨c1, c2, h1, h2, h3⟩ => by
  intro u hu
  rw [h1] at hu
  rcases List.mem_append.1 hu with hu | hu
  ·exact Rep.one d c1 h2 u hu
  ·exact RepF.one ds c2 h3 u hu
end
theorem RepE.length {w : World} {S : Nat → Prop} {sz : Nat} : ∀ {ds : List D} {cs : List Value}, RepE w S sz ds cs → cs.length = ds.length * sz
 | [], _, h => by cases h; simp
 | d :: ds, _, ⟨c1, c2, h1, h2, _, h4⟩ => by rw [h1, List.length_append, h2, RepE.length h4, List.length_cons, Nat.add_mul, Nat.one_mul, Nat.add_comm]
theorem RepE.snoc {w : World} {S : Nat → Prop} {sz : Nat} : ∀ {ds : List D} {cs : List Value} {d : D} {c : List Value}, RepE w S sz ds cs → c.length = sz → Rep w S d c → RepE w S sz (ds ++ [d]) (cs ++ c)
 | [], _, d, c, h, hl, hd => by cases h; exact ⟨c, [], by simp, hl, hd, rfl⟩
 | d0 :: ds, _, d, c, ⟨c1, c2, h1, h2, h3, h4⟩, hl, hd => ⟨c1, c2 ++ c, by rw [h1, List.append_assoc], h2, h3, RepE.snoc h4 hl hd⟩
theorem RepE.append {w : World} {S : Nat → Prop} {sz : Nat} : ∀ {ds es : List D} {cs c : List Value}, RepE w S sz ds cs → RepE w S sz es c → RepE w S sz (ds ++ es) (cs ++ c)
 | [], _, _, _, h, he => by cases h; exact he
 | d0 :: ds, es, _, c, ⟨c1, c2, h1, h2, h3, h4⟩, he => ⟨c1, c2 ++ c, by rw [h1, List.append_assoc], h2, h3, RepE.append h4 he⟩
theorem RepE.get {w : World} {S : Nat → Prop} {sz : Nat} : ∀ {ds : List D} {cs : List Value} (_ : RepE w S sz ds cs) (i : Nat) (d : D), ds[i]? = some d →
  ∃ c, Rep w S d c ∧ c.length = sz ∧ ∀ j u, c[j]? = some u → cs[i * sz + j]? = some u
 | [], _, _, _, _, hd => by simp at hd
 | d0 :: ds, _, ⟨c1, c2, h1, h2, h3, h4⟩, 0, d, hd => by
  simp at hd
  subst hd
  refine ⟨c1, h3, h2, fun j u hj => ?_⟩
  have hlt := (List.getElem?_eq_some_iff.1 hj).1
  rw [h1, Nat.zero_mul, Nat.zero_add, List.getElem?_append_left hlt]
  exact hj
 | d0 :: ds, _, ⟨c1, c2, h1, h2, h3, h4⟩, i + 1, d, hd => by
  obtain ⟨c, hc, hl, hj⟩ := RepE.get h4 i d (by simpa using hd)
  refine ⟨c, hc, hl, fun j u hu => ?_⟩
  rw [h1, List.getElem?_append_right (by rw [h2, Nat.add_mul]; omega)]
  have : (i + 1) * sz + j - c1.length = i * sz + j := by rw [h2, Nat.add_mul]; omega
  rw [this]
  exact hj j u hu
theorem RepE.part {w : World} {S : Nat → Prop} {sz : Nat} : ∀ {ds : List D} {cs : List Value} (_ : RepE w S sz ds cs) (i : Nat) (d : D), ds[i]? = some d →
  ∃ c0 c c1, cs = c0 ++ c ++ c1 ∧ c0.length = i * sz ∧ c.length = sz ∧ RepE w S sz (ds.take i) c0 ∧ Rep w S d c ∧ RepE w S sz (ds.drop (i + 1)) c1
 | [], _, _, _, _, hd => by simp at hd
 | d0 :: ds, _, ⟨c1, c2, h1, h2, h3, h4⟩, 0, d, hd => by
  simp at hd
  subst hd
  exact ⟨[], c1, c2, by simp [h1], by simp, h2, by simp [RepE], h3, by simpa using h4⟩
 | d0 :: ds, _, ⟨c1, c2, h1, h2, h3, h4⟩, i + 1, d, hd => by
  obtain ⟨e0, e, e1, k1, k2, k3, k4, k5, k6⟩ := RepE.part h4 i d (by simpa using hd)
  exact ⟨c1 ++ e0, e, e1, by simp [h1, k1], by rw [List.length_append, h2, k2, Nat.add_mul]; omega, k3, ⟨c1, e0, rfl, h2, h3, k4⟩, k5, by simpa using k6⟩
def Own (w : World) (S : Nat → Prop) (e sz : Nat) (v : Value) (xs : List D) : Prop :=
 ∃ cs, w.ownsRow 0 e sz v xs.length cs ∧ (∀ k, v.ownBlock = some k → S k) ∧ RepE w (fun k => S k ∧ some k ≠ v.ownBlock) sz xs cs
section
variable {w w' : World} {S S' : Nat → Prop} {e sz : Nat} {v : Value} {xs : List D}
theorem Own.nil (w : World) (S : Nat → Prop) (e sz : Nat) : Own w S e sz (.slice none 0 0) [] :=
 ⟨[], World.ownsRow_nil w 0 e sz, by simp [Value.ownBlock], rfl⟩
theorem ownsRow_block {base n size : Nat} {cs : List Value} (h : w.ownsRow base e size v n cs) (hs : ∀ k, v.ownBlock = some k → w'.heap[k]? = w.heap[k]?) : w'.ownsRow base e size v n cs := by
 refine ⟨h.1, ?_⟩
 rcases h.2 with hn | ⟨g, cap, cur, rfl, hb, hgg, rest⟩
 ·exact .inl hn
 ·exact .inr ⟨g, cap, cur, rfl, hb, (hs g (by simp [Value.ownBlock])).trans hgg, rest⟩
theorem Own.lt (h : Own w S e sz v xs) {k : Nat} (hk : v.ownBlock = some k) : k < w.heap.size := by
 obtain ⟨cs, h1, _, _⟩ := h
 exact (h1.lt k hk).2
theorem Own.move (h : Own w S e sz v xs) (hs : Same S w w') (hS : ∀ k, S k → k < w.heap.size → S' k) : Own w' S' e sz v xs := by
 have hlt := fun k hk => Own.lt h (k := k) hk
 obtain ⟨cs, h1, h2, h3⟩ := h
 exact ⟨cs, ownsRow_block h1 (fun k hk => hs k (h2 k hk) (hlt k hk)), fun k hk => hS k (h2 k hk) (hlt k hk),
  RepE.move (fun k hk hl => hs k hk.1 hl) (fun k hk hl => ⟨hS k hk.1 hl, hk.2⟩) _ _ _ h3⟩
theorem Own.block (h : Own w S e sz v xs) {k : Nat} (hk : v.ownBlock = some k) : S k := by
 obtain ⟨_, _, h2, _⟩ := h
 exact h2 k hk
theorem Own.rep (h : Own w S e sz v xs) : Rep w S (.sl e sz xs) [v] := by
 obtain ⟨cs, h1, h2, h3⟩ := h
 have h3' : RepE w S sz xs cs := RepE.move (fun _ _ _ => rfl) (fun k hk _ => hk.1) _ _ _ h3
 rcases h1.2 with ⟨rfl, hn⟩ | ⟨g, cap, cur, rfl, hb, hgg, hle, hmax, _⟩
 ·have : xs = [] := List.eq_nil_of_length_eq_zero hn
  subst this
  cases h3'
  exact ⟨none, 0, [], rfl, Nat.le_refl _, by simp [maxLen], by simp [Rd], rfl⟩
 ·exact ⟨some ⟨g, 0, none⟩, cap, cs, rfl, hle, hmax, fun j u hj => ⟨g, 0, rfl, h2 g (by simp [Value.ownBlock]), by
   have := h1.cells (g := g) (by simp [Value.ownBlock]) j u hj
   rwa [show (⟨g, 0, none⟩ : Addr).add j = ⟨g, 0 + j, none⟩ by unfold Addr.add; split <;> simp_all] at this⟩, h3'⟩
theorem Own.form (h : Own w S e sz v xs) : ∃ A c, v = .slice A xs.length c ∧ xs.length ≤ c ∧ c ≤ maxLen := by
 obtain ⟨A, c, inner, h1, h2, h3, _⟩ := h.rep
 exact ⟨A, c, by simpa using h1, h2, h3⟩
theorem Own.cells (h : Own w S e sz v xs) (hx : xs ≠ []) : ∃ g c cs, v = .slice (some ⟨g, 0, none⟩) xs.length c ∧ S g ∧ xs.length ≤ c ∧ c ≤ maxLen ∧ (∀ j u, cs[j]? = some u → w.cell? ⟨g, j, none⟩ = some u) ∧
  (∀ j, w.frozen? ⟨g, j, none⟩ = false) ∧ g < w.heap.size ∧ RepE w (fun k => S k ∧ k ≠ g) sz xs cs := by
 have hlt := fun k hk => Own.lt h (k := k) hk
 obtain ⟨cs, h1, h2, h3⟩ := h
 rcases h1.2 with ⟨rfl, hn⟩ | ⟨g, cap, cur, rfl, hb, hgg, hle, hmax, _⟩
 ·exact absurd (List.eq_nil_of_length_eq_zero hn) hx
 ·refine ⟨g, cap, cs, rfl, h2 g (by simp [Value.ownBlock]), hle, hmax, fun j u hj => ?_, fun j => by simp [World.frozen?, hgg], hlt g (by simp [Value.ownBlock]), ?_⟩
  ·have := h1.cells (g := g) (by simp [Value.ownBlock]) j u hj
   rwa [show (⟨g, 0, none⟩ : Addr).add j = ⟨g, j, none⟩ by unfold Addr.add; split <;> simp_all] at this
  ·exact RepE.move (fun _ _ _ => rfl) (fun k hk _ => ⟨hk.1, by simpa [Value.ownBlock] using hk.2⟩) _ _ _ h3
end
structure Chg (B : Nat → Prop) (w w' : World) : Prop where
 os : w'.os = w.os
 tape : w'.tape = w.tape
 output : w'.output = w.output
 size : w.heap.size ≤ w'.heap.size
 block : ∀ k, k < w.heap.size → ¬ B k → w'.heap[k]? = w.heap[k]?
section
variable {B B' : Nat → Prop} {w w' w'' : World}
theorem Chg.refl (B : Nat → Prop) (w : World) : Chg B w w := ⟨rfl, rfl, rfl, Nat.le_refl _, fun _ _ _ => rfl⟩
theorem Chg.trans (h : Chg B w w') (h' : Chg B' w' w'') (hB : ∀ k, B' k → k < w.heap.size → B k) : Chg B w w'' :=
 ⟨h'.os.trans h.os, h'.tape.trans h.tape, h'.output.trans h.output, Nat.le_trans h.size h'.size, fun k hk hn => (h'.block k (Nat.lt_of_lt_of_le hk h.size) (fun hb => hn (hB k hb hk))).trans (h.block k hk hn)⟩
theorem Chg.mono (h : Chg B w w') (hB : ∀ k, B k → k < w.heap.size → B' k) : Chg B' w w' := ⟨h.os, h.tape, h.output, h.size, fun k hk hn => h.block k hk (fun hb => hn (hB k hb hk))⟩
theorem Chg.alloc (h : Chg B w w') (o : Obj) : Chg B w (w'.alloc o) := ⟨h.os, h.tape, h.output, Nat.le_trans h.size (by simp), fun k hk hn => (Go.heap_alloc_old w' o (Nat.lt_of_lt_of_le hk h.size)).trans (h.block k hk hn)⟩
theorem Chg.drew (h : Chg B w w') : Chg B w w'.drew := ⟨h.os, h.tape, h.output, h.size, h.block⟩
theorem Chg.drewN (h : Chg B w w') (n : Nat) : Chg B w (w'.drewN n) := ⟨h.os, h.tape, h.output, h.size, h.block⟩
theorem Chg.setCell (h : Chg B w w') {p : Addr} (hp : p.block < w.heap.size → B p.block) (v : Value) : Chg B w (w'.setCell p v) :=
 ⟨h.os, h.tape, h.output, by simpa using h.size, fun k hk hn => (Below.heap_setCell w' p v k (fun e => hn (e ▸ hp (e ▸ hk)))).trans (h.block k hk hn)⟩
theorem Chg.of_grown {row : Option Nat} (h : w.grownBy w' row) : Chg (fun k => some k = row) w w' := ⟨h.os, h.tape, h.output, h.size, fun k hk hn => h.block k hk hn⟩
theorem Chg.of_below (h : Below w.heap.size w w') : Chg (fun _ => False) w w' := ⟨h.os, h.tape, h.output, h.size, fun k hk _ => h.block k hk⟩
theorem Chg.below (h : Chg (fun _ => False) w w') : Below w.heap.size w w' := ⟨h.os, h.tape, h.output, h.size, fun k hk => h.block k hk (fun e => e)⟩
theorem Chg.same (h : Chg B w w') {S : Nat → Prop} (hS : ∀ k, S k → k < w.heap.size → ¬ B k) : Same S w w' := fun k hk hl => h.block k hl (hS k hk hl)
theorem Chg.cell (h : Chg B w w') {a : Addr} {v : Value} (hc : w.cell? a = some v) (hn : ¬ B a.block) : w'.cell? a = some v :=
 (World.cell?_of_block (h.block _ (World.block_lt_of_cell? w a hc) hn)).trans hc
end
theorem Same.alloc (S : Nat → Prop) (w : World) (o : Obj) : Same S w (w.alloc o) := fun _ _ hk => Go.heap_alloc_old w o hk
theorem Same.drewN (S : Nat → Prop) (w : World) (n : Nat) : Same S w (w.drewN n) := fun _ _ _ => rfl
theorem Same.setCell {S : Nat → Prop} (w : World) (p : Addr) (v : Value) (hp : ∀ k, S k → k < w.heap.size → k ≠ p.block) : Same S w (w.setCell p v) := fun k hk hl => Below.heap_setCell w p v k (hp k hk hl)
theorem own_append {P : Program} {W : World} {ops : Array Oper} {rest : List Oper} {o : Oper} {a : Act} {Q : Exit → Act → World → Prop} (S S2 : Nat → Prop) (hgd : o.guard = none) (s x : Operand) (t e : TypeId) (z : Value) (sz bytes : Nat)
  (ho : o.op = .call { callee := .builtin .append, args := #[s, x], argTypes := #[t, t] }) (ht : P.underlying t = some (.slice e))
  (hinfo : (P.info? e).map (fun i => (i.zero, i.size, i.bytes)) = some (some z, sz, bytes)) (hz : z.cells.size = sz) (hs0 : 0 < sz) (hb0 : 0 < bytes)
  (v : Value) (xs : List D) (d : D) (ys : List Value) (hs : a.eval s = v) (hx : a.eval x = .slice (some ⟨W.heap.size, 0, none⟩) 1 1) (hd : Rep W S2 d ys) (hys : ys.length = sz)
  (hS : ∀ k, S2 k → k < W.heap.size → S k ∧ some k ≠ v.ownBlock) (HO : Own W S e sz v xs) (hl : (xs.length + 1) * bytes ≤ 140737488355328)
  (h : ∀ v1 w1, Own w1 (fun k => S k ∨ W.heap.size ≤ k) e sz v1 (xs ++ [d]) → W.grownBy w1 v.ownBlock → (v1.ownBlock = v.ownBlock ∨ ∃ b, v1.ownBlock = some b ∧ W.heap.size ≤ b) → wpList P ops Q rest (a.put o.dst v1) w1) :
  wpList P ops Q (o :: rest) a (W.alloc (.cells ys.toArray e)) := by
 obtain ⟨i0, hi, hz0, hz1, hz2⟩ := info_parts hinfo
 have hlt := fun k hk => Own.lt HO (k := k) hk
 obtain ⟨cs, h1, h2, h3⟩ := HO
 have hlen : xs.length + 1 ≤ 140737488355328 := Nat.le_trans (Nat.le_mul_of_pos_right _ hb0) hl
 refine wpList_append_own_at (W.alloc (.cells ys.toArray e)) hgd s x t ho 0 e i0 z sz bytes ht hi hz0 hz1 hz2 hz hs0 v xs.length cs hs (h1.alloc _) ⟨W.heap.size, 0, none⟩ 1 1 ys hx (by rw [hys]; simp)
  (by simpa using World.news_of_block (cs := ys.toArray) (t := e) (fr := (0, 0)) (heap_alloc_new W (.cells ys.toArray e))) (Rep.one _ _ hd) (by simp only [maxLen]; omega) hl (by simp) ?_
 intro v1 w1 hown hg _ hat
 have hg' : W.grownBy w1 v.ownBlock := World.grownBy.trans (World.grownBy_alloc W _ _) hg
 have hat' : v1.ownBlock = v.ownBlock ∨ ∃ b, v1.ownBlock = some b ∧ W.heap.size ≤ b := by
  rcases hat with hat | hat
  ·exact .inl hat
  ·exact .inr ⟨_, hat, by simp⟩
 refine h v1 w1 ⟨cs ++ ys, by simpa using hown, fun k hk => ?_, ?_⟩ hg' hat'
 ·rcases hat' with hat | ⟨b, hb, hle⟩
  ·exact .inl (h2 k (hat ▸ hk))
  ·rw [hb] at hk
   cases hk
   exact .inr hle
 ·have ne : ∀ k, k < W.heap.size → some k ≠ v.ownBlock → some k ≠ v1.ownBlock := by
   intro k hk hn
   rcases hat' with hat | ⟨b, hb, hle⟩
   ·rw [hat]; exact hn
   ·rw [hb]; intro e; cases e; omega
  have sm : ∀ {T : Nat → Prop}, (∀ k, T k → k < W.heap.size → some k ≠ v.ownBlock) → Same T W w1 := fun hT k hk hl => hg'.block k hl (hT k hk hl)
  refine RepE.snoc (RepE.move (sm (fun k hk _ => hk.2)) (fun k hk hl => ⟨.inl hk.1, ne k hl hk.2⟩) _ _ _ h3) hys (Rep.move (sm (fun k hk hl => (hS k hk hl).2)) (fun k hk hl => ⟨.inl (hS k hk hl).1, ne k hl (hS k hk hl).2⟩) _ _ hd)
theorem Own.put {w : World} {S : Nat → Prop} {e sz : Nat} {v : Value} {xs : List D} (h : Own w S e sz v xs) (i : Nat) (d d' : D) (hd : xs[i]? = some d) (j : Nat) (u : Value) (hj : j < sz)
  (hr : ∀ S' c, Rep w S' d c → c.length = sz → Rep w S' d' (c.set j u)) {g : Nat} (hg : v.ownBlock = some g) : Own (w.setCell ⟨g, i * sz + j, none⟩ u) S e sz v (xs.set i d') := by
 have hlt := Own.lt h hg
 have hb := h.block hg
 obtain ⟨cs, h1, h2, h3⟩ := h
 obtain ⟨c0, c, c1, e0, l0, l1, r0, r, r1⟩ := RepE.part h3 i d hd
 have hi : i < xs.length := (List.getElem?_eq_some_iff.1 hd).1
 have hsame : Same (fun k => S k ∧ some k ≠ v.ownBlock) w (w.setCell ⟨g, i * sz + j, none⟩ u) := Same.setCell w _ _ (fun k hk _ => fun e => hk.2 (by rw [hg, e]))
 refine ⟨c0 ++ c.set j u ++ c1, ?_, h2, ?_⟩
 ·rcases h1.2 with ⟨rfl, _⟩ | ⟨g', cap, cur, rfl, hb', hgg, hle, hmax, hsz, htk⟩
  ·simp [Value.ownBlock] at hg
  ·simp [Value.ownBlock] at hg
   subst hg
   have hpos : i * sz + j < cs.length := by
    have : (i + 1) * sz ≤ xs.length * sz := Nat.mul_le_mul_right _ hi
    rw [h1.1]; rw [Nat.add_mul] at this; omega
   have hset : cs.set (i * sz + j) u = c0 ++ c.set j u ++ c1 := by
    rw [e0, List.append_assoc, List.set_append_right _ _ (by omega), List.set_append_left _ _ (by omega)]
    rw [show i * sz + j - c0.length = j by omega]
    simp [List.append_assoc]
   refine ⟨by rw [← hset, List.length_set, List.length_set]; exact h1.1, .inr ⟨g', cap, cur.setIfInBounds (i * sz + j) u, by simp, hb', ?_, by simpa using hle, hmax, by simpa using hsz, ?_⟩⟩
   ·simp [World.setCell, Array.getElem?_modify, hgg]
   ·rw [← hset, ← htk, Array.toList_setIfInBounds, List.length_set, List.take_set]
 ·have e1 : xs.set i d' = xs.take i ++ d' :: xs.drop (i + 1) := by rw [List.set_eq_take_append_cons_drop]; simp [hi]
  rw [e1, List.append_assoc]
  exact RepE.append (RepE.move hsame (fun _ h _ => h) _ _ _ r0) ⟨c.set j u, c1, rfl, by simpa using l1, Rep.move hsame (fun _ h _ => h) _ _ (hr _ _ r l1), RepE.move hsame (fun _ h _ => h) _ _ _ r1⟩
theorem Same.of_alloc {S : Nat → Prop} {w : World} (o : Obj) (n : Nat) : Same S w ((w.alloc o).drewN n) := fun _ _ hk => Go.heap_alloc_old w o hk
theorem Same.refl (S : Nat → Prop) (w : World) : Same S w w := fun _ _ _ => rfl
theorem Same.mono {S S' : Nat → Prop} {w w' : World} (h : Same S w w') (hS : ∀ k, S' k → k < w.heap.size → S k) : Same S' w w' := fun k hk hl => h k (hS k hk hl) hl
theorem Same.trans {S S' : Nat → Prop} {w w' w'' : World} (h : Same S w w') (h' : Same S' w' w'') (hl : w.heap.size ≤ w'.heap.size) (hS : ∀ k, S k → k < w.heap.size → S' k) : Same S w w'' :=
 fun k hk hlt => (h' k (hS k hk hlt) (Nat.lt_of_lt_of_le hlt hl)).trans (h k hk hlt)
theorem Rep.mono {w : World} {S S' : Nat → Prop} {d : D} {cs : List Value} (h : Rep w S d cs) (hS : ∀ k, S k → k < w.heap.size → S' k) : Rep w S' d cs := Rep.move (Same.refl _ _) hS _ _ h
theorem Own.mono {w : World} {S S' : Nat → Prop} {e sz : Nat} {v : Value} {xs : List D} (h : Own w S e sz v xs) (hS : ∀ k, S k → k < w.heap.size → S' k) : Own w S' e sz v xs := h.move (Same.refl _ _) hS
theorem Rep.bound {w : World} {S : Nat → Prop} {d : D} {cs : List Value} (h : Rep w S d cs) : Rep w (fun k => S k ∧ k < w.heap.size) d cs := h.mono (fun _ h hl => ⟨h, hl⟩)
theorem Own.bound {w : World} {S : Nat → Prop} {e sz : Nat} {v : Value} {xs : List D} (h : Own w S e sz v xs) : Own w (fun k => S k ∧ k < w.heap.size) e sz v xs := h.mono (fun _ h hl => ⟨h, hl⟩)
theorem Own.stay {B S : Nat → Prop} {w w' : World} {e sz : Nat} {v : Value} {xs : List D} (h : Own w S e sz v xs) (hc : Chg B w w') (hn : ∀ k, S k → ¬ B k) : Own w' S e sz v xs := h.move (hc.same (fun k hk _ => hn k hk)) (fun _ h _ => h)
theorem Rep.stay {B S : Nat → Prop} {w w' : World} {d : D} {cs : List Value} (h : Rep w S d cs) (hc : Chg B w w') (hn : ∀ k, S k → ¬ B k) : Rep w' S d cs := Rep.move (hc.same (fun k hk _ => hn k hk)) (fun _ h _ => h) _ _ h
theorem row_cells {w : World} {g : Nat} {cs : Array Value} {t : TypeId} (h : w.heap[g]? = some (.cells cs t (0, 0))) : ∀ j, w.cell? ⟨g, j, none⟩ = cs[j]? := fun j => cell_of_row w g j cs t (0, 0) h
theorem row_free {w : World} {g : Nat} {cs : Array Value} {t : TypeId} (h : w.heap[g]? = some (.cells cs t (0, 0))) : ∀ j, w.frozen? ⟨g, j, none⟩ = false := fun j => by simp [World.frozen?, h]
theorem row_lt {w : World} {g : Nat} {o : Obj} (h : w.heap[g]? = some o) : g < w.heap.size := (Array.getElem?_eq_some_iff.1 h).1
theorem row_set {w : World} {g : Nat} {cs : Array Value} {t : TypeId} (h : w.heap[g]? = some (.cells cs t (0, 0))) (j : Nat) (v : Value) : (w.setCell ⟨g, j, none⟩ v).heap[g]? = some (.cells (cs.setIfInBounds j v) t (0, 0)) := by
 simp [World.setCell, Array.getElem?_modify, h]
theorem row_far {w : World} {g : Nat} {o : Obj} (h : w.heap[g]? = some o) {p : Addr} (hp : g ≠ p.block) (v : Value) : (w.setCell p v).heap[g]? = some o := (Below.heap_setCell w p v g hp).trans h
theorem row_alloc {w : World} {g : Nat} {o : Obj} (h : w.heap[g]? = some o) (o' : Obj) : (w.alloc o').heap[g]? = some o := (Go.heap_alloc_old w o' (row_lt h)).trans h
theorem row_chg {B : Nat → Prop} {w w' : World} {g : Nat} {o : Obj} (h : w.heap[g]? = some o) (hc : Chg B w w') (hn : ¬ B g) : w'.heap[g]? = some o := (hc.block g (row_lt h) hn).trans h
theorem row_new (w : World) (o : Obj) : (w.alloc o).heap[w.heap.size]? = some o := heap_alloc_new w o
theorem still_tail2 {P : Program} {id : Nat} {Q : Exit → Act → World → Prop} {a : Act} {w : World} {l : List Oper} (n : Nat) (hm : P.follows .mixedOrders = true) (hB : Region.lexTailB .any l.toArray n = true)
  (h : wpStill P l.toArray w.drew (fun a' => wpList P l.toArray Q (l.drop n) a' w.drew) (l.take n) a) : (Code.region id l.toArray true).wp P Q a w := wp_region_still_tail n hm hB h
end Go.Proofs.YtdfnkmiabmjolaaGreatDoor
namespace Go.Proofs.YtdfnkmiabmjolaaGreatDoor
abbrev Bytes := List UInt8
inductive Part where
 | mk (kind : Int) (quoted : Bool) (text op : Bytes) (word : List Part)
def Part.kind : Part → Int | .mk k _ _ _ _ => k
def Part.quoted : Part → Bool | .mk _ q _ _ _ => q
def Part.text : Part → Bytes | .mk _ _ t _ _ => t
def Part.op : Part → Bytes | .mk _ _ _ o _ => o
def Part.word : Part → List Part | .mk _ _ _ _ w => w
mutual
def Part.beq : Part → Part → Bool
 | .mk k q t o w, .mk k' q' t' o' w' => k == k' && q == q' && t == t' && o == o' && beqs w w'
def beqs : List Part → List Part → Bool
 | [], [] => true
 | p :: ps, q :: qs => Part.beq p q && beqs ps qs
 | _, _ => false
end
def letterB (n : Int) : Bool := n == 95 || (decide (97 ≤ n) && decide (n ≤ 122)) || (decide (65 ≤ n) && decide (n ≤ 90))
def digitB (n : Int) : Bool := decide (48 ≤ n) && decide (n ≤ 57)
def letter (c : UInt8) : Bool := letterB c.toNat
def digit (c : UInt8) : Bool := digitB c.toNat
def alnum (c : UInt8) : Bool := letter c || digit c
def metas : Bytes := [32, 9, 10, 59, 38, 124, 60, 62, 40, 41]
def metaB (c : UInt8) : Bool := metas.contains c
def specials : Bytes := [64, 42, 35, 63]
def special (c : UInt8) : Bool := specials.contains c
def named : Bytes → Nat
 | [] => 0
 | c :: r => if letter c then 1 + (r.takeWhile alnum).length else 0
def nameB (s : Bytes) : Bool := s != [] && decide (s.length ≤ 64) && named s == s.length
def idx (c : UInt8) : Bytes → Option Nat
 | [] => none
 | d :: r => if d == c then some 0 else (idx c r).map (· + 1)
def closed (q : UInt8) : Bytes → Option Nat
 | [] => none
 | c :: r => if c == q then some 0 else if c == 92 && q == 34 then (match r with | [] => none | _ :: r' => (closed q r').map (· + 2)) else (closed q r).map (· + 1)
def insideF : Nat → Nat → Bytes → Option Nat
 | 0, _, _ => none
 | _ + 1, _, [] => none
 | n + 1, deep, c :: r =>
  if c == 92 then (insideF n deep (r.drop 1)).map (· + 2)
  else if c == 39 || c == 34 then (match closed c r with | none => none | some k => (insideF n deep (r.drop (k + 1))).map (· + (k + 2)))
  else if c == 40 then (insideF n (deep + 1) r).map (· + 1)
  else if c == 41 then (if deep == 0 then some 0 else (insideF n (deep - 1) r).map (· + 1))
  else (insideF n deep r).map (· + 1)
def inside (s : Bytes) : Option Nat := insideF (s.length + 1) 0 s
def lit (s : Bytes) (q : Bool) : Part := .mk 1 q s [] []
def add : List Part → Part → List Part
 | [], p => [p]
 | [l], p => if p.kind == 1 && l.kind == 1 && l.quoted == p.quoted then [.mk l.kind l.quoted (l.text ++ p.text) l.op l.word] else [l, p]
 | l :: m :: ls, p => l :: add (m :: ls) p
mutual
def allP : Part → Part
 | .mk k _ t o w => .mk k true t o (allL [] w)
def allL : List Part → List Part → List Part
 | acc, [] => acc
 | acc, p :: ps => allL (add acc (allP p)) ps
end
def allB (p : Part) (q : Bool) : Part := if q then allP p else p
inductive Rs (α : Type) where
 | ok (a : α) (rest : Bytes)
 | err (left : Nat) (e : Int)
def escape (l : List Part) : Bytes → Rs (List Part)
 | _ :: d :: r => .ok (if d == 10 then l else add l (lit [d] true)) r
 | s => .err s.length 60
def ops : List Bytes := [[58, 45], [58, 61], [58, 63], [58, 43], [37, 37], [35, 35], [45], [61], [63], [43], [37], [35]]
def opL : List Bytes → Bytes → Bytes
 | [], _ => []
 | o :: os, s => if o.isPrefixOf s then o else opL os s
def opM (s : Bytes) : Bytes := opL ops s
def parameter (s : Bytes) : Nat :=
 match s with
 | [] => 0
 | c :: _ => if named s > 0 then named s else if special c then 1 else (s.takeWhile digit).length
def arithStop : Bytes := [39, 34, 92, 96, 10]
def arithF : Nat → Nat → Bytes → Bytes → Rs Bytes
 | from_, _, _, [] => .err from_ 60
 | from_, deep, acc, c :: r =>
  if arithStop.contains c then .err (r.length + 1) 61
  else if c == 40 then arithF from_ (deep + 1) (acc ++ [c]) r
  else if c == 41 && deep > 0 then arithF from_ (deep - 1) (acc ++ [c]) r
  else if c == 41 then (match r with | 41 :: r' => .ok acc r' | _ => .err (r.length + 1) 61)
  else arithF from_ deep (acc ++ [c]) r
def dblq : Bytes := [36, 34, 92, 96, 10]
def dblEsc : Bytes → Bool
 | d :: _ => dblq.contains d
 | [] => false
def dollarG (pm : Bytes → Rs Part) (q : Bool) (r : Bytes) : Rs Part :=
 if named r > 64 then .err r.length 61
 else if named r > 0 then .ok (.mk 2 q (r.take (named r)) [] []) (r.drop (named r))
 else match r with
 | [] => .ok (lit [36] q) []
 | c :: r2 =>
  if digit c || special c then .ok (.mk 2 q [c] [] []) r2
  else if c == 123 then pm r2
  else if c == 40 then (if r2.head? == some 40 then
    (match arithF (r2.length + 2) 0 [] (r2.drop 1) with | .ok t r' => .ok (.mk 4 q t [] []) r' | .err a e => .err a e)
   else (match inside r2 with | none => .err (r2.length + 2) 60 | some k => .ok (.mk 3 q (r2.take k) [] []) (r2.drop (k + 1))))
  else .ok (lit [36] q) (c :: r2)
def lenB : Bytes → Bool
 | 35 :: d :: _ => d != 125
 | _ => false
def finish (from_ : Nat) (q : Bool) (text op : Bytes) : Rs (List Part) → Rs Part
 | .err a e => .err a e
 | .ok l r => (match r with
  | [] => .err from_ 60
  | c :: r4 => if c == 125 then .ok (allB (.mk 2 q text op l) q) r4 else .err (r4.length + 1) 61)
def paramG (wd : Bytes → Rs (List Part)) (from_ : Nat) (len q : Bool) (r1 : Bytes) : Rs Part :=
 if parameter r1 == 0 || decide (parameter r1 > 64) then .err r1.length 61
 else finish from_ q (r1.take (parameter r1)) (if len then [108, 101, 110] else opM (r1.drop (parameter r1)))
  (if len || opM (r1.drop (parameter r1)) == [] then .ok [] (r1.drop (parameter r1)) else wd ((r1.drop (parameter r1)).drop (opM (r1.drop (parameter r1))).length))
mutual
def wordF : Nat → Nat → Bool → Bool → List Part → Bytes → Rs (List Part)
 | 0, _, _, _, _, _ => .err 0 0
 | _ + 1, _, _, _, l, [] => .ok l []
 | n + 1, deep, br, q, l, c :: r =>
  if (br && c == 125) || (!br && metaB c) then .ok l (c :: r)
  else if c == 92 then (match escape l (c :: r) with | .ok l' r' => wordF n deep br q l' r' | .err a e => .err a e)
  else if c == 39 then (match idx 39 r with | none => .err (r.length + 1) 60 | some k => wordF n deep br q (add l (lit (r.take k) true)) (r.drop (k + 1)))
  else if c == 34 then (match doubleF n deep (r.length + 1) l r with | .ok l' r' => wordF n deep br q l' r' | .err a e => .err a e)
  else if c == 96 then .err (r.length + 1) 61
  else if c == 36 then (match dollarF n deep q r with | .ok p r' => wordF n deep br q (add l p) r' | .err a e => .err a e)
  else wordF n deep br q (add l (lit [c] q)) r
def doubleF : Nat → Nat → Nat → List Part → Bytes → Rs (List Part)
 | 0, _, _, _, _ => .err 0 0
 | _ + 1, _, from_, _, [] => .err from_ 60
 | n + 1, deep, from_, l, c :: r =>
  if c == 34 then .ok (if r.length + 2 == from_ then add l (lit [] true) else l) r
  else if c == 96 then .err (r.length + 1) 61
  else if c == 36 then (match dollarF n deep true r with | .ok p r' => doubleF n deep from_ (add l p) r' | .err a e => .err a e)
  else if c == 92 && dblEsc r then (match escape l (c :: r) with | .ok l' r' => doubleF n deep from_ l' r' | .err a e => .err a e)
  else doubleF n deep from_ (add l (lit [c] true)) r
def dollarF : Nat → Nat → Bool → Bytes → Rs Part
 | 0, _, _, _ => .err 0 0
 | n + 1, deep, q, r => dollarG (paramF n deep q) q r
def paramF : Nat → Nat → Bool → Bytes → Rs Part
 | 0, _, _, _ => .err 0 0
 | n + 1, deep, q, r => if deep + 1 > 16 then .err (r.length + 2) 63 else paramG (wordF n (deep + 1) true q []) (r.length + 2) (lenB r) q (if lenB r then r.drop 1 else r)
end
def fuel (s : Bytes) : Nat := 4 * s.length + 3
def scan (s : Bytes) : Rs (List Part) := wordF (fuel s) 0 false false [] s
def bstr (s : Bytes) : ByteArray := ⟨s.toArray⟩
theorem bstr_size (s : Bytes) : (bstr s).size = s.length := by simp [bstr, ByteArray.size]
theorem bstr_toList (s : Bytes) : (bstr s).data.toList = s := by simp [bstr]
theorem bstr_of (s : ByteArray) : bstr s.data.toList = s := by simp [bstr]
theorem bstr_append (s t : Bytes) : bstr s ++ bstr t = bstr (s ++ t) := ByteArray.mk_append_mk s t
theorem len_data (s : ByteArray) : s.data.toList.length = s.size := by rw [Array.length_toList]; rfl
mutual
def Part.d : Part → D
 | .mk k q t o w => .st [.int .i64 k, .bool q, .str (bstr t), .str (bstr o), .sl 103 5 (Part.ds w)]
def Part.ds : List Part → List D
 | [] => []
 | p :: ps => Part.d p :: Part.ds ps
end
theorem Part.ds_map : ∀ ps : List Part, Part.ds ps = ps.map Part.d
 | [] => rfl
 | p :: ps => by rw [Part.ds, Part.ds_map ps]; rfl
theorem Part.ds_length (ps : List Part) : (Part.ds ps).length = ps.length := by rw [Part.ds_map, List.length_map]
theorem Part.ds_append (ps qs : List Part) : Part.ds (ps ++ qs) = Part.ds ps ++ Part.ds qs := by simp [Part.ds_map]
theorem part_rep {w : World} {S : Nat → Prop} {k : Int} {q : Bool} {t o : Bytes} {wd : List Part} {cs : List Value} :
  Rep w S (Part.d (.mk k q t o wd)) cs ↔ ∃ v, cs = [.int .i64 k, .bool q, .string (bstr t), .string (bstr o), v] ∧ Rep w S (.sl 103 5 (Part.ds wd)) [v] := by
 constructor
 ·rintro ⟨_, _, rfl, rfl, _, _, rfl, rfl, _, _, rfl, rfl, _, _, rfl, rfl, _, _, rfl, h, rfl⟩
  obtain ⟨A, c, inner, rfl, h2⟩ := h
  exact ⟨_, rfl, A, c, inner, rfl, h2⟩
 ·rintro ⟨v, rfl, h⟩
  exact ⟨_, _, rfl, rfl, _, _, rfl, rfl, _, _, rfl, rfl, _, _, rfl, rfl, [v], [], rfl, h, rfl⟩
theorem part_rep2 {w : World} {S : Nat → Prop} {k : Int} {q : Bool} {t o : Bytes} {wd : List Part} {cs : List Value} (h : Rep w S (Part.d (.mk k q t o wd)) cs) :
  ∃ A c, cs = [.int .i64 k, .bool q, .string (bstr t), .string (bstr o), .slice A wd.length c] ∧ Rep w S (.sl 103 5 (Part.ds wd)) [.slice A wd.length c] ∧ wd.length ≤ c ∧ c ≤ maxLen := by
 obtain ⟨v, rfl, A, c, inner, e, h2, h3, h4⟩ := part_rep.1 h
 cases e
 rw [Part.ds_length] at *
 exact ⟨A, c, rfl, ⟨A, c, inner, by rw [Part.ds_length], by rw [Part.ds_length]; exact h2, h3, h4⟩, h2, h3⟩
mutual
def Part.wt : Part → Nat
 | .mk _ _ t o w => 1 + t.length + o.length + Part.wts w
def Part.wts : List Part → Nat
 | [] => 0
 | p :: ps => Part.wt p + Part.wts ps
end
theorem Part.length_le : ∀ ps : List Part, ps.length ≤ Part.wts ps
 | [] => Nat.le_refl _
 | .mk k q t o w :: ps => by have := Part.length_le ps; simp [Part.wts, Part.wt]; omega
theorem Part.wts_append : ∀ ps qs : List Part, Part.wts (ps ++ qs) = Part.wts ps + Part.wts qs
 | [], qs => by simp [Part.wts]
 | p :: ps, qs => by simp [Part.wts, Part.wts_append ps qs]; omega
theorem add_snoc : ∀ (l : List Part) (m p : Part), add (l ++ [m]) p = if p.kind == 1 && m.kind == 1 && m.quoted == p.quoted then l ++ [.mk m.kind m.quoted (m.text ++ p.text) m.op m.word] else l ++ [m, p]
 | [], m, p => by simp [add]
 | [a], m, p => by simp only [List.cons_append, List.nil_append, add]; split <;> rfl
 | a :: b :: l, m, p => by
  have := add_snoc (b :: l) m p
  simp only [List.cons_append] at this ⊢
  rw [add, this]
  split <;> rfl
theorem snoc_cases {α : Type} (l : List α) : l = [] ∨ ∃ i m, l = i ++ [m] := by
 rcases List.eq_nil_or_concat l with h | ⟨i, m, h⟩
 ·exact .inl h
 ·exact .inr ⟨i, m, by simpa using h⟩
theorem add_wt (l : List Part) (p : Part) : Part.wts (add l p) ≤ Part.wts l + p.wt := by
 rcases snoc_cases l with rfl | ⟨i, m, rfl⟩
 ·simp [add, Part.wts]
 ·rw [add_snoc]
  split
  ·obtain ⟨k, q, t, o, w⟩ := m
   obtain ⟨k', q', t', o', w'⟩ := p
   simp [Part.wts_append, Part.wts, Part.wt, Part.text, Part.op, Part.word]
   omega
  ·simp [Part.wts_append, Part.wts]
   omega
end Go.Proofs.YtdfnkmiabmjolaaGreatDoor
