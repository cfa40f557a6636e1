/-
  What a record and an entry are, as values and in memory; the plain answers of package lrec's checks. No condition.
-/
import Derived.Test.YtnijijcbdajodaaRows
import Derived.Test.YtnijijcbdajodaaWireQ
namespace Go.Proofs.Ytnijijcbdajodaa
set_option linter.unusedVariables false
set_option linter.unusedSimpArgs false
open Go.RowKit

structure Rec where
  key : List UInt8
  lsn : Nat
  del : Bool
  val : List UInt8
  deriving DecidableEq
structure Entry where
  ts : Nat
  first : Nat
  ops : List Rec
  deriving DecidableEq
def recCells (r : Rec) : List Value := [.string ⟨r.key.toArray⟩, .int .u64 r.lsn, .bool r.del, .string ⟨r.val.toArray⟩]
def recV (r : Rec) : Value := .agg #[.string ⟨r.key.toArray⟩, .int .u64 r.lsn, .bool r.del, .string ⟨r.val.toArray⟩]
/-- Sizes that a machine has. -/
structure Rec.ok (r : Rec) : Prop where
  key : r.key.length ≤ 9223372036854775807
  val : r.val.length ≤ 9223372036854775807
  lsn : r.lsn < U64

/-- The rows of a slice of records. -/
structure RecsAt (w : World) (a : Option Addr) (n c : Nat) (rs : List Rec) : Prop where
  len : rs.length = n
  cap : n ≤ c
  max : n ≤ 9223372036854775807
  at_ : 0 < n → ∃ g o, a = some ⟨g, o, none⟩ ∧ g < w.heap.size ∧ ∀ i (h : i < rs.length), w.cell? ⟨g, o + i * 4, none⟩ = some (.string ⟨rs[i].key.toArray⟩) ∧ w.cell? ⟨g, o + i * 4 + 1, none⟩ = some (.int .u64 rs[i].lsn) ∧
    w.cell? ⟨g, o + i * 4 + 2, none⟩ = some (.bool rs[i].del) ∧ w.cell? ⟨g, o + i * 4 + 3, none⟩ = some (.string ⟨rs[i].val.toArray⟩)
theorem RecsAt.on {w w' : World} {a : Option Addr} {n c : Nat} {rs : List Rec} (h : RecsAt w a n c rs) (hb : Below w.heap.size w w') : RecsAt w' a n c rs :=
  ⟨h.len, h.cap, h.max, fun hn => by
    obtain ⟨g, o, rfl, hg, hc⟩ := h.at_ hn
    refine ⟨g, o, rfl, Nat.lt_of_lt_of_le hg hb.size, fun i hi => ?_⟩
    rw [hb.cell (p := ⟨g, o + i * 4, none⟩) hg, hb.cell (p := ⟨g, o + i * 4 + 1, none⟩) hg, hb.cell (p := ⟨g, o + i * 4 + 2, none⟩) hg, hb.cell (p := ⟨g, o + i * 4 + 3, none⟩) hg]
    exact hc i hi⟩

theorem RecsAt.row {w w' : World} {a : Option Addr} {n c : Nat} {rs : List Rec} (h : RecsAt w a n c rs) (hb : Below w.heap.size w w') {i : Nat} (hi : i < n) :
    ∃ x g o, rs[i]? = some x ∧ x ∈ rs ∧ a = some ⟨g, o, none⟩ ∧ w'.cell? ⟨g, o + i * 4, none⟩ = some (.string ⟨x.key.toArray⟩) ∧ w'.cell? ⟨g, o + i * 4 + 1, none⟩ = some (.int .u64 x.lsn) ∧
      w'.cell? ⟨g, o + i * 4 + 2, none⟩ = some (.bool x.del) ∧ w'.cell? ⟨g, o + i * 4 + 3, none⟩ = some (.string ⟨x.val.toArray⟩) := by
  have hl : i < rs.length := by rw [h.len]; exact hi
  obtain ⟨g, o, e, _, hc⟩ := (h.on hb).at_ (by omega)
  obtain ⟨c0, c1, c2, c3⟩ := hc i hl
  exact ⟨rs[i], g, o, List.getElem?_eq_getElem hl, List.getElem_mem hl, e, c0, c1, c2, c3⟩

/-- The same where only new blocks, and those of S, may have changed, none of them the rows' own: 'old' says that the rows lie below block B. -/
def RecsOld (B : Nat) (a : Option Addr) : Prop := ∀ g o, a = some ⟨g, o, none⟩ → g < B
theorem RecsAt.rowMod {S : List Nat} {w w' : World} {a : Option Addr} {n c B : Nat} {rs : List Rec} (h : RecsAt w a n c rs) (hm : Mod S w w') (hold : RecsOld B a) (hS : ∀ x ∈ S, B ≤ x) {i : Nat} (hi : i < n) :
    ∃ x g o, rs[i]? = some x ∧ x ∈ rs ∧ a = some ⟨g, o, none⟩ ∧ w'.cell? ⟨g, o + i * 4, none⟩ = some (.string ⟨x.key.toArray⟩) ∧ w'.cell? ⟨g, o + i * 4 + 1, none⟩ = some (.int .u64 x.lsn) ∧
      w'.cell? ⟨g, o + i * 4 + 2, none⟩ = some (.bool x.del) ∧ w'.cell? ⟨g, o + i * 4 + 3, none⟩ = some (.string ⟨x.val.toArray⟩) := by
  have hl : i < rs.length := by rw [h.len]; exact hi
  obtain ⟨g, o, rfl, hg, hc⟩ := h.at_ (by omega)
  obtain ⟨c0, c1, c2, c3⟩ := hc i hl
  have hgB := hold g o rfl
  have hn : g ∉ S := fun hh => by have := hS g hh; omega
  exact ⟨rs[i], g, o, List.getElem?_eq_getElem hl, List.getElem_mem hl, rfl, (hm.cell hg hn).trans c0, (hm.cell hg hn).trans c1, (hm.cell hg hn).trans c2, (hm.cell hg hn).trans c3⟩
theorem RecsAt.old {w : World} {a : Option Addr} {n c : Nat} {rs : List Rec} (h : RecsAt w a n c rs) (hn : 0 < n) : RecsOld w.heap.size a := by
  obtain ⟨g, o, rfl, hg, _⟩ := h.at_ hn
  intro g' o' e
  cases e
  exact hg

/-- May a record be? -/
def may (r : Rec) : Nat := if r.key.length ≤ 16 ∧ r.val.length ≤ 24 then (if r.key ≠ [] ∧ (r.del = false ∨ r.val = []) then 0 else 2) else 3
def may1 (r : Rec) : Nat := if r.key.length ≤ 16 ∧ r.val.length ≤ 24 then 0 else 3
def may2 (r : Rec) : Nat := if r.key ≠ [] ∧ (r.del = false ∨ r.val = []) then 0 else 2
theorem may_eq (r : Rec) : may r = if may1 r = 0 then may2 r else may1 r := by
  unfold may may1 may2; split <;> simp
def stampB (n : Nat) : Bool := decide (1 ≤ n) && decide (n ≤ 1099511627776)

/-- The entry as a value. -/
def entryV (ts first : Nat) (a : Option Addr) (n c : Nat) : Value := .agg #[.int .u64 ts, .int .u64 first, .slice a n c]
def entryCells (ts first : Nat) (a : Option Addr) (n c : Nat) : List Value := [.int .u64 ts, .int .u64 first, .slice a n c]
def shortRes (ops : List Rec) : Nat := if ops.any (fun x => may x == 3) then 3 else if ops.length ≤ 6 then 0 else 3
def goodOp (first i : Nat) (seen : List (List UInt8)) (x : Rec) : Bool := may x == 0 && x.lsn == (first + i) % U64 && stampB x.lsn && !(seen.contains x.key)
def goodFrom (first : Nat) : Nat → List (List UInt8) → List Rec → Bool
  | _, _, [] => true
  | i, seen, x :: xs => goodOp first i seen x && goodFrom first (i + 1) (x.key :: seen) xs
def madeRes (ts first : Nat) (ops : List Rec) : Nat := if goodFrom first 0 [] ops && decide (0 < ops.length) && stampB ts && stampB first then 0 else 2
def checkRes (ts first : Nat) (ops : List Rec) : Nat := if shortRes ops = 0 then madeRes ts first ops else shortRes ops
end Go.Proofs.Ytnijijcbdajodaa
