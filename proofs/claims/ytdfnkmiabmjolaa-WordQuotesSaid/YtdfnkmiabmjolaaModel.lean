/- What package word computes, in plain Lean: texts are lists of bytes; where a text stands is what is left of it. No program is in sight. -/
import Derived.WalkKit
namespace Go.Proofs.Ytdfnkmiabmjolaa

abbrev Bytes := List UInt8
/-- A part of a word. -/
inductive Part where
  | mk (kind : Int) (quoted : Bool) (text op : Bytes) (word : List Part)
def Part.kind : Part → Int | .mk k _ _ _ _ => k
def Part.quoted : Part → Bool | .mk _ q _ _ _ => q
def Part.text : Part → Bytes | .mk _ _ t _ _ => t
def Part.op : Part → Bytes | .mk _ _ _ o _ => o
def Part.word : Part → List Part | .mk _ _ _ _ w => w
mutual
def Part.beq : Part → Part → Bool
  | .mk k q t o w, .mk k' q' t' o' w' => k == k' && q == q' && t == t' && o == o' && beqs w w'
def beqs : List Part → List Part → Bool
  | [], [] => true
  | p :: ps, q :: qs => Part.beq p q && beqs ps qs
  | _, _ => false
end

def letterB (n : Int) : Bool := n == 95 || (decide (97 ≤ n) && decide (n ≤ 122)) || (decide (65 ≤ n) && decide (n ≤ 90))
def digitB (n : Int) : Bool := decide (48 ≤ n) && decide (n ≤ 57)
def letter (c : UInt8) : Bool := letterB c.toNat
def digit (c : UInt8) : Bool := digitB c.toNat
def alnum (c : UInt8) : Bool := letter c || digit c
def metas : Bytes := [32, 9, 10, 59, 38, 124, 60, 62, 40, 41]
def metaB (c : UInt8) : Bool := metas.contains c
def specials : Bytes := [64, 42, 35, 63]
def special (c : UInt8) : Bool := specials.contains c
/-- How long the name is that a text begins with. -/
def named : Bytes → Nat
  | [] => 0
  | c :: r => if letter c then 1 + (r.takeWhile alnum).length else 0
def nameB (s : Bytes) : Bool := s != [] && decide (s.length ≤ 64) && named s == s.length
/-- Where the first such byte stands. -/
def idx (c : UInt8) : Bytes → Option Nat
  | [] => none
  | d :: r => if d == c then some 0 else (idx c r).map (· + 1)
/-- Where the quote q ends, behind its beginning. -/
def closed (q : UInt8) : Bytes → Option Nat
  | [] => none
  | c :: r => if c == q then some 0 else if c == 92 && q == 34 then (match r with | [] => none | _ :: r' => (closed q r').map (· + 2)) else (closed q r).map (· + 1)
/-- How many bytes stand ahead of the ) that ends a text. -/
def insideF : Nat → Nat → Bytes → Option Nat
  | 0, _, _ => none
  | _ + 1, _, [] => none
  | n + 1, deep, c :: r =>
    if c == 92 then (insideF n deep (r.drop 1)).map (· + 2)
    else if c == 39 || c == 34 then (match closed c r with | none => none | some k => (insideF n deep (r.drop (k + 1))).map (· + (k + 2)))
    else if c == 40 then (insideF n (deep + 1) r).map (· + 1)
    else if c == 41 then (if deep == 0 then some 0 else (insideF n (deep - 1) r).map (· + 1))
    else (insideF n deep r).map (· + 1)
def inside (s : Bytes) : Option Nat := insideF (s.length + 1) 0 s

def lit (s : Bytes) (q : Bool) : Part := .mk 1 q s [] []
/-- A part behind others: texts of one kind are one. -/
def add : List Part → Part → List Part
  | [], p => [p]
  | [l], p => if p.kind == 1 && l.kind == 1 && l.quoted == p.quoted then [.mk l.kind l.quoted (l.text ++ p.text) l.op l.word] else [l, p]
  | l :: m :: ls, p => l :: add (m :: ls) p
mutual
def allP : Part → Part
  | .mk k _ t o w => .mk k true t o (allL [] w)
def allL : List Part → List Part → List Part
  | acc, [] => acc
  | acc, p :: ps => allL (add acc (allP p)) ps
end
def allB (p : Part) (q : Bool) : Part := if q then allP p else p

/-- What reading comes to: a value and what is left; or a fault, by what is left at its place, and its number. -/
inductive Rs (α : Type) where
  | ok (a : α) (rest : Bytes)
  | err (left : Nat) (e : Int)

def escape (l : List Part) : Bytes → Rs (List Part)
  | _ :: d :: r => .ok (if d == 10 then l else add l (lit [d] true)) r
  | s => .err s.length 60
def ops : List Bytes := [[58, 45], [58, 61], [58, 63], [58, 43], [37, 37], [35, 35], [45], [61], [63], [43], [37], [35]]
def opL : List Bytes → Bytes → Bytes
  | [], _ => []
  | o :: os, s => if o.isPrefixOf s then o else opL os s
def opM (s : Bytes) : Bytes := opL ops s
def parameter (s : Bytes) : Nat :=
  match s with
  | [] => 0
  | c :: _ => if named s > 0 then named s else if special c then 1 else (s.takeWhile digit).length
def arithStop : Bytes := [39, 34, 92, 96, 10]
/-- Arithmetic, behind its $((: so much of it is read, so deep. -/
def arithF : Nat → Nat → Bytes → Bytes → Rs Bytes
  | from_, _, _, [] => .err from_ 60
  | from_, deep, acc, c :: r =>
    if arithStop.contains c then .err (r.length + 1) 61
    else if c == 40 then arithF from_ (deep + 1) (acc ++ [c]) r
    else if c == 41 && deep > 0 then arithF from_ (deep - 1) (acc ++ [c]) r
    else if c == 41 then (match r with | 41 :: r' => .ok acc r' | _ => .err (r.length + 1) 61)
    else arithF from_ deep (acc ++ [c]) r
def dblq : Bytes := [36, 34, 92, 96, 10]
/-- Does a backslash quote what stands behind it, in double quotes? -/
def dblEsc : Bytes → Bool
  | d :: _ => dblq.contains d
  | [] => false

/-- Behind a $; pm: what stands behind a ${ . -/
def dollarG (pm : Bytes → Rs Part) (q : Bool) (r : Bytes) : Rs Part :=
  if named r > 64 then .err r.length 61
  else if named r > 0 then .ok (.mk 2 q (r.take (named r)) [] []) (r.drop (named r))
  else match r with
  | [] => .ok (lit [36] q) []
  | c :: r2 =>
    if digit c || special c then .ok (.mk 2 q [c] [] []) r2
    else if c == 123 then pm r2
    else if c == 40 then (if r2.head? == some 40 then
        (match arithF (r2.length + 2) 0 [] (r2.drop 1) with | .ok t r' => .ok (.mk 4 q t [] []) r' | .err a e => .err a e)
      else (match inside r2 with | none => .err (r2.length + 2) 60 | some k => .ok (.mk 3 q (r2.take k) [] []) (r2.drop (k + 1))))
    else .ok (lit [36] q) (c :: r2)
def lenB : Bytes → Bool
  | 35 :: d :: _ => d != 125
  | _ => false
/-- A parameter in braces, its word read. -/
def finish (from_ : Nat) (q : Bool) (text op : Bytes) : Rs (List Part) → Rs Part
  | .err a e => .err a e
  | .ok l r => (match r with
    | [] => .err from_ 60
    | c :: r4 => if c == 125 then .ok (allB (.mk 2 q text op l) q) r4 else .err (r4.length + 1) 61)
/-- Behind a ${ and the # of a length; wd: the word of an operation. -/
def paramG (wd : Bytes → Rs (List Part)) (from_ : Nat) (len q : Bool) (r1 : Bytes) : Rs Part :=
  if parameter r1 == 0 || decide (parameter r1 > 64) then .err r1.length 61
  else finish from_ q (r1.take (parameter r1)) (if len then [108, 101, 110] else opM (r1.drop (parameter r1)))
    (if len || opM (r1.drop (parameter r1)) == [] then .ok [] (r1.drop (parameter r1)) else wd ((r1.drop (parameter r1)).drop (opM (r1.drop (parameter r1))).length))
mutual
def wordF : Nat → Nat → Bool → Bool → List Part → Bytes → Rs (List Part)
  | 0, _, _, _, _, _ => .err 0 0
  | _ + 1, _, _, _, l, [] => .ok l []
  | n + 1, deep, br, q, l, c :: r =>
    if (br && c == 125) || (!br && metaB c) then .ok l (c :: r)
    else if c == 92 then (match escape l (c :: r) with | .ok l' r' => wordF n deep br q l' r' | .err a e => .err a e)
    else if c == 39 then (match idx 39 r with | none => .err (r.length + 1) 60 | some k => wordF n deep br q (add l (lit (r.take k) true)) (r.drop (k + 1)))
    else if c == 34 then (match doubleF n deep (r.length + 1) l r with | .ok l' r' => wordF n deep br q l' r' | .err a e => .err a e)
    else if c == 96 then .err (r.length + 1) 61
    else if c == 36 then (match dollarF n deep q r with | .ok p r' => wordF n deep br q (add l p) r' | .err a e => .err a e)
    else wordF n deep br q (add l (lit [c] q)) r
def doubleF : Nat → Nat → Nat → List Part → Bytes → Rs (List Part)
  | 0, _, _, _, _ => .err 0 0
  | _ + 1, _, from_, _, [] => .err from_ 60
  | n + 1, deep, from_, l, c :: r =>
    if c == 34 then .ok (if r.length + 2 == from_ then add l (lit [] true) else l) r
    else if c == 96 then .err (r.length + 1) 61
    else if c == 36 then (match dollarF n deep true r with | .ok p r' => doubleF n deep from_ (add l p) r' | .err a e => .err a e)
    else if c == 92 && dblEsc r then (match escape l (c :: r) with | .ok l' r' => doubleF n deep from_ l' r' | .err a e => .err a e)
    else doubleF n deep from_ (add l (lit [c] true)) r
/-- Behind a $. -/
def dollarF : Nat → Nat → Bool → Bytes → Rs Part
  | 0, _, _, _ => .err 0 0
  | n + 1, deep, q, r => dollarG (paramF n deep q) q r
/-- Behind a ${. -/
def paramF : Nat → Nat → Bool → Bytes → Rs Part
  | 0, _, _, _ => .err 0 0
  | n + 1, deep, q, r => if deep + 1 > 16 then .err (r.length + 2) 63 else paramG (wordF n (deep + 1) true q []) (r.length + 2) (lenB r) q (if lenB r then r.drop 1 else r)
end
def fuel (s : Bytes) : Nat := 4 * s.length + 3
def scan (s : Bytes) : Rs (List Part) := wordF (fuel s) 0 false false [] s
end Go.Proofs.Ytdfnkmiabmjolaa
