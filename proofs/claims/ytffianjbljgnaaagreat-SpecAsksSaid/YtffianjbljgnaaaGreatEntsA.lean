/-
  Entries as they lie in memory. No condition.
-/
import Derived.Test.YtffianjbljgnaaaGreatPairs
namespace Go.Proofs.YtffianjbljgnaaaGreat
set_option linter.unusedVariables false
set_option linter.unusedSimpArgs false
open Go.RowKit

def recsCells (l : List Rec) : List Value := l.flatMap recCells
theorem recs_length (l : List Rec) : (recsCells l).length = l.length * 4 := by
  induction l with
  | nil => rfl
  | cons e t ih => show (recCells e ++ recsCells t).length = _; rw [List.length_append, ih, List.length_cons]; show 4 + _ = _; omega
theorem recs_get (l : List Rec) (i : Nat) (r : Rec) (h : l[i]? = some r) : (recsCells l)[i * 4]? = some (.string ⟨r.key.toArray⟩) ∧ (recsCells l)[i * 4 + 1]? = some (.int .u64 (r.lsn : Nat)) ∧ (recsCells l)[i * 4 + 2]? = some (.bool r.del) ∧ (recsCells l)[i * 4 + 3]? = some (.string ⟨r.val.toArray⟩) := by
  induction l generalizing i with
  | nil => simp at h
  | cons q qs ih =>
    cases i with
    | zero => cases h; exact ⟨rfl, rfl, rfl, rfl⟩
    | succ i =>
      have := ih i (by simpa using h)
      have e0 : ∀ j, (recsCells (q :: qs))[j + 4]? = (recsCells qs)[j]? := fun j => by
        show (recCells q ++ recsCells qs)[j + 4]? = _
        rw [List.getElem?_append_right (by show 4 ≤ _; omega)]; show (recsCells qs)[j + 4 - 4]? = _; rw [Nat.add_sub_cancel]
      refine ⟨?_, ?_, ?_, ?_⟩
      · rw [show (i + 1) * 4 = i * 4 + 4 by omega, e0]; exact this.1
      · rw [show (i + 1) * 4 + 1 = i * 4 + 1 + 4 by omega, e0]; exact this.2.1
      · rw [show (i + 1) * 4 + 2 = i * 4 + 2 + 4 by omega, e0]; exact this.2.2.1
      · rw [show (i + 1) * 4 + 3 = i * 4 + 3 + 4 by omega, e0]; exact this.2.2.2
structure Entry where
  ts : Nat
  first : Nat
  ops : List Rec
  deriving DecidableEq
/-- An entry as it lies: its numbers, and where its operations are. -/
structure Ent where
  ts : Nat
  first : Nat
  a : Option Addr
  n : Nat
  c : Nat
  deriving Inhabited
def entCells (e : Ent) : List Value := [.int .u64 (e.ts : Nat), .int .u64 (e.first : Nat), .slice e.a e.n e.c]
def entsCells (l : List Ent) : List Value := l.flatMap entCells
theorem ents_length (l : List Ent) : (entsCells l).length = l.length * 3 := by
  induction l with
  | nil => rfl
  | cons e t ih => show (entCells e ++ entsCells t).length = _; rw [List.length_append, ih, List.length_cons]; show 3 + _ = _; omega
theorem ents_append (l m : List Ent) : entsCells (l ++ m) = entsCells l ++ entsCells m := by unfold entsCells; rw [List.flatMap_append]
theorem ents_get (l : List Ent) (i : Nat) (r : Ent) (h : l[i]? = some r) : (entsCells l)[i * 3]? = some (.int .u64 (r.ts : Nat)) ∧ (entsCells l)[i * 3 + 1]? = some (.int .u64 (r.first : Nat)) ∧ (entsCells l)[i * 3 + 2]? = some (.slice r.a r.n r.c) := by
  induction l generalizing i with
  | nil => simp at h
  | cons q qs ih =>
    cases i with
    | zero => cases h; exact ⟨rfl, rfl, rfl⟩
    | succ i =>
      have := ih i (by simpa using h)
      have e0 : ∀ j, (entsCells (q :: qs))[j + 3]? = (entsCells qs)[j]? := fun j => by
        show (entCells q ++ entsCells qs)[j + 3]? = _
        rw [List.getElem?_append_right (by show 3 ≤ _; omega)]; show (entsCells qs)[j + 3 - 3]? = _; rw [Nat.add_sub_cancel]
      refine ⟨?_, ?_, ?_⟩
      · rw [show (i + 1) * 3 = i * 3 + 3 by omega, e0]; exact this.1
      · rw [show (i + 1) * 3 + 1 = i * 3 + 1 + 3 by omega, e0]; exact this.2.1
      · rw [show (i + 1) * 3 + 2 = i * 3 + 2 + 3 by omega, e0]; exact this.2.2
/-- What a record of an entry is asked to be: its key's length is one that a machine has. -/
def Rec.ok (r : Rec) : Prop := r.key.length ≤ maxLen ∧ r.val.length ≤ maxLen ∧ r.lsn < 18446744073709551616
structure Entry.ok (x : Entry) : Prop where
  ts : x.ts < 18446744073709551616
  first : x.first < 18446744073709551616
  ops : ∀ r ∈ x.ops, r.ok
/-- An entry that lies so. -/
structure EntIs (w : World) (e : Ent) (x : Entry) : Prop where
  ts : e.ts = x.ts
  first : e.first = x.first
  n : e.n = x.ops.length
  rows : RowsAt w e.a e.n e.c 4 (recsCells x.ops)
  ok : x.ok
theorem EntIs.on {w w' : World} {e : Ent} {x : Entry} (h : EntIs w e x) (hb : Below w.heap.size w w') : EntIs w' e x := ⟨h.ts, h.first, h.n, h.rows.on hb, h.ok⟩
theorem EntIs.mod {S : List Nat} {w w' : World} {e : Ent} {x : Entry} (h : EntIs w e x) (hm : Mod S w w') (hS : Off S e.a) : EntIs w' e x := ⟨h.ts, h.first, h.n, h.rows.mod hm hS, h.ok⟩
/-- A slice of entries. -/
structure EntsAt (w : World) (a : Option Addr) (n c : Nat) (z : List (Ent × Entry)) : Prop where
  len : z.length = n
  rows : RowsAt w a n c 3 (entsCells (z.map (·.1)))
  each : ∀ q ∈ z, EntIs w q.1 q.2
theorem EntsAt.on {w w' : World} {a : Option Addr} {n c : Nat} {z : List (Ent × Entry)} (h : EntsAt w a n c z) (hb : Below w.heap.size w w') : EntsAt w' a n c z := ⟨h.len, h.rows.on hb, fun q hq => (h.each q hq).on hb⟩
theorem info_entry : (Tryz.prog.info? 36).map (fun i => (i.zero, i.size, i.bytes)) = some (some (.agg #[.int .u64 0, .int .u64 0, .slice none 0 0]), 3, 40) := by kernel_rfl
abbrev EZ := Ent × Entry
theorem ops_asc {M : List KV} (h : Asc M) (l : List Rec) : Asc (l.foldl app M) := by
  induction l generalizing M with
  | nil => exact h
  | cons r t ih => exact ih (app_asc h r)
theorem ops_length {M : List KV} (h : Asc M) (l : List Rec) : (l.foldl app M).length ≤ M.length + l.length := by
  induction l generalizing M with
  | nil => exact Nat.le_refl _
  | cons r t ih =>
    have := ih (app_asc h r)
    have := app_length h r
    rw [List.foldl_cons, List.length_cons]
    omega
theorem sel_all (M : List KV) : sel M [] [] = M := by
  unfold sel
  refine List.filter_eq_self.2 fun p _ => ?_
  unfold inside
  simp
/-- An entry of a slice that reads. -/
theorem EntsAt.row {w : World} {a : Option Addr} {n c : Nat} {z : List EZ} (h : EntsAt w a n c z) {i : Nat} (hi : i < n) :
    ∃ (q : EZ) (g o : Nat), z[i]? = some q ∧ q ∈ z ∧ a = some ⟨g, o, none⟩ ∧ g < w.heap.size ∧ w.cell? ⟨g, o + i * 3, none⟩ = some (.int .u64 (q.1.ts : Nat)) ∧ w.cell? ⟨g, o + i * 3 + 1, none⟩ = some (.int .u64 (q.1.first : Nat)) ∧ w.cell? ⟨g, o + i * 3 + 2, none⟩ = some (.slice q.1.a q.1.n q.1.c) := by
  have hl : i < z.length := by rw [h.len]; exact hi
  obtain ⟨g, o, e, hg, hc⟩ := h.rows.at_ (by omega)
  obtain ⟨h0, h1, h2⟩ := ents_get (z.map (·.1)) i z[i].1 (by rw [List.getElem?_map, List.getElem?_eq_getElem hl]; rfl)
  have c0 := hc _ _ h0
  have c1 := hc _ _ h1
  have c2 := hc _ _ h2
  rw [← Nat.add_assoc] at c1 c2
  exact ⟨z[i], g, o, List.getElem?_eq_getElem hl, List.getElem_mem hl, e, hg, c0, c1, c2⟩
theorem recs_row {w : World} {a : Option Addr} {n c : Nat} {l : List Rec} (h : RowsAt w a n c 4 (recsCells l)) (hl : n = l.length) {i : Nat} (hi : i < n) :
    ∃ (r : Rec) (g o : Nat), l[i]? = some r ∧ r ∈ l ∧ a = some ⟨g, o, none⟩ ∧ g < w.heap.size ∧ w.cell? ⟨g, o + i * 4, none⟩ = some (.string ⟨r.key.toArray⟩) ∧ w.cell? ⟨g, o + i * 4 + 1, none⟩ = some (.int .u64 (r.lsn : Nat)) ∧ w.cell? ⟨g, o + i * 4 + 2, none⟩ = some (.bool r.del) ∧ w.cell? ⟨g, o + i * 4 + 3, none⟩ = some (.string ⟨r.val.toArray⟩) := by
  obtain ⟨g, o, e, hg, hc⟩ := h.at_ (by omega)
  have hx : i < l.length := by omega
  obtain ⟨h0, h1, h2, h3⟩ := recs_get l i l[i] (List.getElem?_eq_getElem hx)
  have c0 := hc _ _ h0
  have c1 := hc _ _ h1
  have c2 := hc _ _ h2
  have c3 := hc _ _ h3
  rw [← Nat.add_assoc] at c1 c2 c3
  exact ⟨l[i], g, o, List.getElem?_eq_getElem hx, List.getElem_mem hx, e, hg, c0, c1, c2, c3⟩
theorem EntsAt.mod {S : List Nat} {w w' : World} {a : Option Addr} {n c : Nat} {z : List EZ} (h : EntsAt w a n c z) (hm : Mod S w w') (hS : Off S a) (hE : ∀ q ∈ z, Off S q.1.a) : EntsAt w' a n c z := ⟨h.len, h.rows.mod hm hS, fun q hq => (h.each q hq).mod hm (hE q hq)⟩
end Go.Proofs.YtffianjbljgnaaaGreat
