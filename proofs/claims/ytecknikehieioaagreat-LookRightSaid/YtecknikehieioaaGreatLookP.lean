/-
  The plain laws of package look: what it asks of calls, entries and of what is seen; and that this is what the document asks. No program here. No condition.
-/
import Derived.Test.YtecknikehieioaaGreatLookM
namespace Go.Proofs.YtecknikehieioaaGreat
set_option linter.unusedVariables false
set_option linter.unusedSimpArgs false
open Go.RowKit Go.Maps

/-- What is seen, as it lies. -/
structure Sn where
  tcUp : Bool
  dcUp : Bool
  ready : Bool
  sync : Bool
  base : Nat
  stable : Nat
  last : Nat
  eosl : Nat
  low : Nat
  ca : Option Addr
  cn : Nat
  cc : Nat
  aa : Option Addr
  an : Nat
  ac : Nat
  fly : Int
def snCells (s : Sn) : List Value := [.bool s.tcUp, .bool s.dcUp, .bool s.ready, .bool s.sync, .int .u64 (s.base : Nat), .int .u64 (s.stable : Nat), .int .u64 (s.last : Nat), .int .u64 (s.eosl : Nat), .int .u64 (s.low : Nat), .slice s.ca s.cn s.cc, .slice s.aa s.an s.ac, .int .i64 s.fly]

/-! Kept -/
def wroteK (m : Md) : Bool := m.dn && (decide (m.err = 0) && (decide (m.kind = 3) || decide (m.kind = 4)))
def wroteB (Z : List MZ) (ts : Nat) : Bool := Z.any fun q => wroteK q.1 && decide (q.1.ts = ts)
def askedB (Z : List MZ) (ts : Nat) : Bool := Z.any fun q => askC ts q.1
def entB (L : List Entry) (ts : Nat) : Bool := L.any fun x => decide (x.ts = ts)
def keptC (Z : List MZ) (L : List Entry) (m : Md) : Bool := decide (m.kind = 5) && (m.dn && (decide (m.err = 0) && (wroteB Z m.ts && !entB L m.ts)))
def nextK (nx : Nat) (x : Entry) : Nat := match x.ops.getLast? with | none => nx | some r => (r.lsn + 1) % 18446744073709551616
def badE (Z : List MZ) (D : List Entry) (nx : Nat) (x : Entry) : Bool := !askedB Z x.ts || (entB D x.ts || !decide (x.first = nx))
def scanK (Z : List MZ) : List Entry → Nat → Nat → List Entry → Int
  | _, _, _, [] => -1
  | D, nx, i, x :: t => if badE Z D nx x then (i : Int) else scanK Z (D ++ [x]) (nextK nx x) (i + 1) t
def keptL (Z : List MZ) (L : List Entry) : Int :=
  if 0 ≤ firstAt (keptC Z L) 0 Z then firstAt (keptC Z L) 0 Z else if scanK Z [] 1 0 L < 0 then -1 else Z.length + scanK Z [] 1 0 L
theorem scanK_step (Z : List MZ) (L : List Entry) (nx i : Nat) (x : Entry) (h : L[i]? = some x) : scanK Z (L.take i) nx i (L.drop i) = if badE Z (L.take i) nx x then (i : Int) else scanK Z (L.take (i + 1)) (nextK nx x) (i + 1) (L.drop (i + 1)) := by
  obtain ⟨h1, rfl⟩ := List.getElem?_eq_some_iff.1 h
  rw [List.drop_eq_getElem_cons h1, List.take_add_one, List.getElem?_eq_getElem h1]
  rfl
theorem scanK_ge (Z : List MZ) (L D : List Entry) (nx i : Nat) : -1 ≤ scanK Z D nx i L ∧ scanK Z D nx i L ≤ (i : Int) + L.length := by
  induction L generalizing D nx i with
  | nil => exact ⟨Int.le_refl _, by show (-1 : Int) ≤ _; omega⟩
  | cons x t ih =>
    unfold scanK
    have := ih (D ++ [x]) (nextK nx x) (i + 1)
    rw [List.length_cons]
    split <;> omega
theorem nextK_lt (nx : Nat) (x : Entry) (h : nx < 18446744073709551616) : nextK nx x < 18446744073709551616 := by
  unfold nextK
  split
  · exact h
  · omega

/-! Tree -/
def deld (r : Rec) : Rec := { r with del := true }
def badT (st : Nat) (A : List Rec) (p : Option Rec) (r : Rec) : Bool := (decide (r.lsn ≤ st) && !isR A r) || (match p with | none => false | some p => !decide (p.key < r.key))
def scanT (st : Nat) (A : List Rec) : Option Rec → Nat → List Rec → Int
  | _, _, [] => -1
  | p, i, r :: t => if badT st A p r then (i : Int) else scanT st A (some r) (i + 1) t
def maxN (N : List Rec) (k : Txt) : Nat := gmax (N.map deld) k
def badO (last st low : Nat) (N A : List Rec) (x : Rec) : Bool := decide (last ≤ st) && (decide (x.lsn ≤ low) && (!x.del && (!(knownR N x.key && decide (x.lsn ≤ maxN N x.key)) && decide (gmax A x.key ≤ x.lsn))))
def treeL (up : Bool) (last st low : Nat) (N A : List Rec) : Int :=
  if up then
    if 0 ≤ scanT st A none 0 N then scanT st A none 0 N else if firstR (badO last st low N A) 0 A < 0 then -1 else N.length + firstR (badO last st low N A) 0 A
  else -1
/-- The last one of the first i. -/
def prevT (N : List Rec) (i : Nat) : Option Rec := (N.take i).getLast?
theorem prevT_next (N : List Rec) (i : Nat) (r : Rec) (h : N[i]? = some r) : prevT N (i + 1) = some r := by
  unfold prevT
  rw [List.take_add_one, h]
  simp
theorem scanT_step (st : Nat) (A N : List Rec) (i : Nat) (r : Rec) (h : N[i]? = some r) : scanT st A (prevT N i) i (N.drop i) = if badT st A (prevT N i) r then (i : Int) else scanT st A (prevT N (i + 1)) (i + 1) (N.drop (i + 1)) := by
  rw [prevT_next N i r h]
  obtain ⟨h1, rfl⟩ := List.getElem?_eq_some_iff.1 h
  rw [List.drop_eq_getElem_cons h1]
  rfl
theorem scanT_ge (st : Nat) (A N : List Rec) (p : Option Rec) (i : Nat) : -1 ≤ scanT st A p i N ∧ scanT st A p i N ≤ (i : Int) + N.length := by
  induction N generalizing p i with
  | nil => exact ⟨Int.le_refl _, by show (-1 : Int) ≤ _; omega⟩
  | cons x t ih =>
    unfold scanT
    have := ih (some x) (i + 1)
    rw [List.length_cons]
    split <;> omega
theorem delR_deld (N : List Rec) (k : Txt) : delR (N.map deld) k = knownR N k := by
  unfold delR knownR
  rw [List.any_map]
  congr 1
  funext o
  show (decide (o.key = k) && true) = decide (o.key = k)
  rw [Bool.and_true]
/-- What the document asks of an operation. -/
def badD (last st low : Nat) (N A : List Rec) (x : Rec) : Bool := !(decide (low < x.lsn) || x.del || decide (st < last) || (N.any fun o => decide (o.key = x.key) && decide (x.lsn ≤ o.lsn)) || (A.any fun o => o.del && decide (o.key = x.key) && decide (x.lsn < o.lsn)))
theorem maxN_ge (N : List Rec) (x : Rec) : (knownR N x.key && decide (x.lsn ≤ maxN N x.key)) = N.any fun o => decide (o.key = x.key) && decide (x.lsn ≤ o.lsn) := by
  have := gmax_ge (N.map deld) x
  rw [delR_deld] at this
  unfold maxN
  rw [this]
  unfold goneR
  rw [List.any_map]
  congr 1
  funext o
  show (decide (o.key = x.key) && true && decide (x.lsn ≤ o.lsn)) = _
  rw [Bool.and_true]
theorem gmax_le (A : List Rec) (x : Rec) : decide (gmax A x.key ≤ x.lsn) = !(A.any fun o => o.del && decide (o.key = x.key) && decide (x.lsn < o.lsn)) := by
  have : ∀ (A : List Rec) (m : Nat), decide (A.foldl (gmaxF x.key) m ≤ x.lsn) = (decide (m ≤ x.lsn) && !(A.any fun o => o.del && decide (o.key = x.key) && decide (x.lsn < o.lsn))) := by
    intro A
    induction A with
    | nil =>
      intro m
      show decide (m ≤ x.lsn) = (decide (m ≤ x.lsn) && true)
      rw [Bool.and_true]
    | cons r t ih =>
      intro m
      rw [List.foldl_cons, ih, List.any_cons]
      unfold gmaxF
      by_cases h1 : r.key = x.key
      · cases h2 : r.del with
        | true =>
          rw [if_pos ⟨h1, rfl⟩, decide_eq_true h1, Bool.not_or, ← Bool.and_assoc]
          congr 1
          by_cases h3 : m ≤ x.lsn <;> by_cases h4 : x.lsn < r.lsn <;> simp [h3, h4] <;> omega
        | false => rw [if_neg (by simp)]; simp
      · rw [if_neg (fun h => h1 h.1), decide_eq_false h1]; simp
  have h0 := this A 0
  rw [show decide (0 ≤ x.lsn) = true from decide_eq_true (Nat.zero_le _), Bool.true_and] at h0
  exact h0
theorem badO_eq (last st low : Nat) (N A : List Rec) (x : Rec) : badO last st low N A x = badD last st low N A x := by
  unfold badO badD
  rw [maxN_ge, gmax_le]
  generalize (N.any fun o => decide (o.key = x.key) && decide (x.lsn ≤ o.lsn)) = a
  generalize (A.any fun o => o.del && decide (o.key = x.key) && decide (x.lsn < o.lsn)) = b
  have e1 : decide (low < x.lsn) = !decide (x.lsn ≤ low) := by by_cases h : x.lsn ≤ low <;> simp [h] <;> omega
  have e2 : decide (st < last) = !decide (last ≤ st) := by by_cases h : last ≤ st <;> simp [h] <;> omega
  rw [e1, e2]
  cases decide (x.lsn ≤ low) <;> cases decide (last ≤ st) <;> cases x.del <;> cases a <;> cases b <;> rfl

/-! Bounds, Quiet -/
def ascB (T : List Nat) : Bool := decide (T.Pairwise fun a b => a < b)
def boundsL (s : Sn) (T : List Nat) : Bool :=
  (!s.tcUp || (decide (s.base ≤ s.stable) && decide (s.stable ≤ s.last))) && ((!s.dcUp || decide (s.low ≤ s.eosl)) && ((!s.tcUp || (!s.dcUp || decide (s.eosl ≤ s.stable))) && ((decide (T.length ≤ 6) && (decide (0 ≤ s.fly) && decide (s.fly ≤ 400))) && ascB T)))
def quietL (s : Sn) (T : List Nat) (Z : List MZ) : Bool :=
  (s.tcUp && (s.dcUp && (s.ready && decide (T.length = 0)))) && ((decide (s.low = s.eosl) && (decide (s.eosl = s.stable) && decide (s.stable = s.last))) && Z.all fun q => q.1.dn)
end Go.Proofs.YtecknikehieioaaGreat
