/-
  Plain law of contents: what the document says, what the program's maps say; and rows of records for all later worlds. No condition.
-/
import Derived.Test.YtffianjbljgnaaaRecEq
namespace Go.Proofs.Ytffianjbljgnaaa
set_option linter.unusedVariables false
set_option linter.unusedSimpArgs false
open Go.RowKit

def isR (p : List Rec) (r : Rec) : Bool := p.any fun q => decide (q = r)
def isE (L : List Entry) (r : Rec) : Bool := L.any fun x => isR x.ops r
def newer (p : List Rec) (r : Rec) : Bool := p.any fun q => decide (q.key = r.key) && decide (r.lsn < q.lsn)
def okN (W : List Rec) (L : List Entry) (r : Rec) : Bool := (isR W r || isE L r) && !newer W r
def goneR (p : List Rec) (q : Rec) : Bool := p.any fun o => decide (o.key = q.key) && o.del && decide (q.lsn ≤ o.lsn)
def goneE (L : List Entry) (q : Rec) : Bool := L.any fun x => goneR x.ops q
def okW (N : List Rec) (L : List Entry) (q : Rec) : Bool := q.del || knownR N q.key || goneE L q
def firstBad (p : Rec → Bool) : List Rec → Nat → Option Nat
  | [], _ => none
  | r :: t, i => if p r then firstBad p t (i + 1) else some i
def contentL (W : List Rec) (L : List Entry) (N : List Rec) : Int :=
  match firstBad (okN W L) N 0 with
  | some i => i
  | none => match firstBad (okW N L) W 0 with
    | some i => N.length + i
    | none => -1
theorem any_next {α : Type} (f : α → Bool) (l : List α) (k : Nat) (q : α) (h : l[k]? = some q) : (l.take (k + 1)).any f = ((l.take k).any f || f q) := by
  rw [List.take_add_one, h, List.any_append]
  simp
theorem firstBad_step (p : Rec → Bool) (l : List Rec) (i : Nat) (r : Rec) (h : l[i]? = some r) : firstBad p (l.drop i) i = if p r then firstBad p (l.drop (i + 1)) (i + 1) else some i := by
  obtain ⟨h1, rfl⟩ := List.getElem?_eq_some_iff.1 h
  rw [List.drop_eq_getElem_cons h1]
  rfl
theorem firstBad_end (p : Rec → Bool) (l : List Rec) (i : Nat) (h : l.length ≤ i) : firstBad p (l.drop i) i = none := by
  rw [List.drop_eq_nil_of_le h]
  rfl
/-- The cells of a record. -/
def RecCellsAt (w : World) (g o : Nat) (r : Rec) : Prop :=
  w.cell? ⟨g, o, none⟩ = some (.string ⟨r.key.toArray⟩) ∧ w.cell? ⟨g, o + 1, none⟩ = some (.int .u64 (r.lsn : Nat)) ∧ w.cell? ⟨g, o + 2, none⟩ = some (.bool r.del) ∧ w.cell? ⟨g, o + 3, none⟩ = some (.string ⟨r.val.toArray⟩)
theorem recs_rowB {w : World} {a : Option Addr} {n c : Nat} {l : List Rec} (h : RowsAt w a n c 4 (recsCells l)) (hl : n = l.length) {i : Nat} (hi : i < n) :
    ∃ (r : Rec) (g o : Nat), l[i]? = some r ∧ r ∈ l ∧ a = some ⟨g, o, none⟩ ∧ ∀ w', Below w.heap.size w w' → RecCellsAt w' g (o + i * 4) r := by
  obtain ⟨r, g, o, h1, h2, h3, h4, d0, d1, d2, d3⟩ := recs_row h hl hi
  exact ⟨r, g, o, h1, h2, h3, fun w' hb => ⟨(hb.cell (p := ⟨g, o + i * 4, none⟩) h4).trans d0, (hb.cell (p := ⟨g, o + i * 4 + 1, none⟩) h4).trans d1, (hb.cell (p := ⟨g, o + i * 4 + 2, none⟩) h4).trans d2, (hb.cell (p := ⟨g, o + i * 4 + 3, none⟩) h4).trans d3⟩⟩
theorem EntsAt.rowB {w : World} {a : Option Addr} {n c : Nat} {z : List EZ} (h : EntsAt w a n c z) {i : Nat} (hi : i < n) :
    ∃ (q : EZ) (g o : Nat), z[i]? = some q ∧ q ∈ z ∧ a = some ⟨g, o, none⟩ ∧ ∀ w', Below w.heap.size w w' → w'.cell? ⟨g, o + i * 3, none⟩ = some (.int .u64 (q.1.ts : Nat)) ∧ w'.cell? ⟨g, o + i * 3 + 1, none⟩ = some (.int .u64 (q.1.first : Nat)) ∧ w'.cell? ⟨g, o + i * 3 + 2, none⟩ = some (.slice q.1.a q.1.n q.1.c) := by
  obtain ⟨q, g, o, h1, h2, h3, h4, d0, d1, d2⟩ := h.row hi
  exact ⟨q, g, o, h1, h2, h3, fun w' hb => ⟨(hb.cell (p := ⟨g, o + i * 3, none⟩) h4).trans d0, (hb.cell (p := ⟨g, o + i * 3 + 1, none⟩) h4).trans d1, (hb.cell (p := ⟨g, o + i * 3 + 2, none⟩) h4).trans d2⟩⟩
end Go.Proofs.Ytffianjbljgnaaa
