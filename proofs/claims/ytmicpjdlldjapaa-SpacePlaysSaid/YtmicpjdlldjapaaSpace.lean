/-
  The document's space, in plain Lean: pieces that live. No program here. No condition.
-/
import Derived.Test.YtmicpjdlldjapaaMem
namespace Go.Proofs.Ytmicpjdlldjapaa
set_option linter.unusedVariables false
set_option linter.unusedSimpArgs false

/-- A piece that lives. -/
structure Pc where
  seg : Nat
  pl : Nat
  n : Nat
  deriving DecidableEq
/-- A space. cnt: how many pieces were ever put in. -/
structure Sp where
  segs : Nat
  per : Nat
  ls : List Pc
  now : Int
  mark : Nat
  cnt : Nat

/-- How many sectors of a segment live. -/
def liveN : List Pc → Nat → Nat
  | [], _ => 0
  | p :: ps, i => (if p.seg = i then p.n else 0) + liveN ps i
/-- How long is the piece of a segment at a place? -/
def pieceN : List Pc → Nat → Int → Int
  | [], _, _ => 0
  | p :: ps, i, k => if p.seg = i ∧ (p.pl : Int) = k then p.n else pieceN ps i k
def apartP (p q : Pc) : Prop := p.seg = q.seg → p.pl + p.n ≤ q.pl ∨ q.pl + q.n ≤ p.pl
structure Sp.Inv (S : Sp) : Prop where
  segs : 2 ≤ S.segs ∧ S.segs ≤ 64
  per : 1 ≤ S.per ∧ S.per ≤ 64
  now : -1 ≤ S.now ∧ S.now < S.segs
  mark : S.mark ≤ S.per
  fit : ∀ p ∈ S.ls, p.seg < S.segs ∧ 1 ≤ p.n ∧ p.pl + p.n ≤ S.per
  apart : S.ls.Pairwise apartP
  below : ∀ p ∈ S.ls, (p.seg : Int) = S.now → p.pl + p.n ≤ S.mark

def Sp.new (segs per : Nat) : Sp := ⟨segs, per, [], -1, 0, 0⟩
/-- The segments in which nothing lives. -/
def Sp.free (S : Sp) : List Nat := (List.range S.segs).filter fun i => liveN S.ls i == 0
def Sp.fill (S : Sp) (seg mark n : Nat) : Sp := ⟨S.segs, S.per, S.ls ++ [⟨seg, mark, n⟩], seg, mark + n, S.cnt + 1⟩
/-- A piece is asked for: which one is given (or none, and why), and what is then. -/
def Sp.alloc (S : Sp) (n : Int) (spare : Bool) : (Nat × Nat × Nat) × Nat × Sp :=
  if n < 1 ∨ (S.per : Int) < n then ((0, 0, 0), 2, S)
  else if S.now < 0 ∨ (S.per : Int) < S.mark + n then
    match S.free with
    | [] => ((0, 0, 0), 7, S)
    | i :: r => if r = [] ∧ spare = false then ((0, 0, 0), 7, S) else ((i, 0, n.toNat), 0, S.fill i 0 n.toNat)
  else ((S.now.toNat, S.mark, n.toNat), 0, S.fill S.now.toNat S.mark n.toNat)
/-- May a piece be taken? -/
def Sp.may (S : Sp) (seg pl n : Int) : Bool :=
  decide (0 ≤ seg ∧ seg < S.segs ∧ seg ≠ S.now ∧ 0 ≤ pl ∧ pl < S.per ∧ 1 ≤ n ∧ n ≤ S.per - pl) && S.ls.all fun p => !decide ((p.seg : Int) = seg ∧ (p.pl : Int) < pl + n ∧ pl < p.pl + p.n)
def Sp.take (S : Sp) (seg pl n : Int) : Nat × Sp :=
  if S.may seg pl n then (0, ⟨S.segs, S.per, S.ls ++ [⟨seg.toNat, pl.toNat, n.toNat⟩], S.now, S.mark, S.cnt + 1⟩) else (2, S)
def isPc (seg pl n : Int) (p : Pc) : Bool := decide ((p.seg : Int) = seg ∧ (p.pl : Int) = pl ∧ (p.n : Int) = n)
def Sp.drop (S : Sp) (seg pl n : Int) : Nat × Sp :=
  if S.ls.any (isPc seg pl n) then (0, ⟨S.segs, S.per, S.ls.eraseP (isPc seg pl n), S.now, S.mark, S.cnt⟩) else (5, S)
/-- Who of the first k segments should be cleaned? -/
def Sp.bestOf (S : Sp) : Nat → Option Nat
  | 0 => none
  | k + 1 => if (k : Int) ≠ S.now ∧ 0 < liveN S.ls k ∧ (S.bestOf k).all (fun b => decide (liveN S.ls k < liveN S.ls b)) = true then some k else S.bestOf k
def Sp.victim (S : Sp) : Option Nat := S.bestOf S.segs
/-- How many of the first k segments are empty, and are not being filled? -/
def Sp.emptyOf (S : Sp) : Nat → Nat
  | 0 => 0
  | k + 1 => S.emptyOf k + (if (k : Int) ≠ S.now ∧ liveN S.ls k = 0 then 1 else 0)
def Sp.empty (S : Sp) : Nat := S.emptyOf S.segs
def Sp.live (S : Sp) (seg : Int) : Nat := if 0 ≤ seg then liveN S.ls seg.toNat else 0
end Go.Proofs.Ytmicpjdlldjapaa
