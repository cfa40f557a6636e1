/-
  Entries as they lie in memory; their copy, put in order by their timestamps. Condition: fewer than twenty entries (BoundE).
-/
import Derived.Test.YtffianjbljgnaaaPairs
import Derived.Test.YtffianjbljgnaaaStab
namespace Go.Proofs.Ytffianjbljgnaaa
set_option linter.unusedVariables false
set_option linter.unusedSimpArgs false
open Go.RowKit

def recsCells (l : List Rec) : List Value := l.flatMap recCells
theorem recs_length (l : List Rec) : (recsCells l).length = l.length * 4 := by
  induction l with
  | nil => rfl
  | cons e t ih => show (recCells e ++ recsCells t).length = _; rw [List.length_append, ih, List.length_cons]; show 4 + _ = _; omega
theorem recs_get (l : List Rec) (i : Nat) (r : Rec) (h : l[i]? = some r) : (recsCells l)[i * 4]? = some (.string ⟨r.key.toArray⟩) ∧ (recsCells l)[i * 4 + 1]? = some (.int .u64 (r.lsn : Nat)) ∧ (recsCells l)[i * 4 + 2]? = some (.bool r.del) ∧ (recsCells l)[i * 4 + 3]? = some (.string ⟨r.val.toArray⟩) := by
  induction l generalizing i with
  | nil => simp at h
  | cons q qs ih =>
    cases i with
    | zero => cases h; exact ⟨rfl, rfl, rfl, rfl⟩
    | succ i =>
      have := ih i (by simpa using h)
      have e0 : ∀ j, (recsCells (q :: qs))[j + 4]? = (recsCells qs)[j]? := fun j => by
        show (recCells q ++ recsCells qs)[j + 4]? = _
        rw [List.getElem?_append_right (by show 4 ≤ _; omega)]; show (recsCells qs)[j + 4 - 4]? = _; rw [Nat.add_sub_cancel]
      refine ⟨?_, ?_, ?_, ?_⟩
      · rw [show (i + 1) * 4 = i * 4 + 4 by omega, e0]; exact this.1
      · rw [show (i + 1) * 4 + 1 = i * 4 + 1 + 4 by omega, e0]; exact this.2.1
      · rw [show (i + 1) * 4 + 2 = i * 4 + 2 + 4 by omega, e0]; exact this.2.2.1
      · rw [show (i + 1) * 4 + 3 = i * 4 + 3 + 4 by omega, e0]; exact this.2.2.2
structure Entry where
  ts : Nat
  first : Nat
  ops : List Rec
  deriving DecidableEq
/-- An entry as it lies: its numbers, and where its operations are. -/
structure Ent where
  ts : Nat
  first : Nat
  a : Option Addr
  n : Nat
  c : Nat
  deriving Inhabited
def entCells (e : Ent) : List Value := [.int .u64 (e.ts : Nat), .int .u64 (e.first : Nat), .slice e.a e.n e.c]
def entsCells (l : List Ent) : List Value := l.flatMap entCells
theorem ents_length (l : List Ent) : (entsCells l).length = l.length * 3 := by
  induction l with
  | nil => rfl
  | cons e t ih => show (entCells e ++ entsCells t).length = _; rw [List.length_append, ih, List.length_cons]; show 3 + _ = _; omega
theorem ents_append (l m : List Ent) : entsCells (l ++ m) = entsCells l ++ entsCells m := by unfold entsCells; rw [List.flatMap_append]
theorem ents_get (l : List Ent) (i : Nat) (r : Ent) (h : l[i]? = some r) : (entsCells l)[i * 3]? = some (.int .u64 (r.ts : Nat)) ∧ (entsCells l)[i * 3 + 1]? = some (.int .u64 (r.first : Nat)) ∧ (entsCells l)[i * 3 + 2]? = some (.slice r.a r.n r.c) := by
  induction l generalizing i with
  | nil => simp at h
  | cons q qs ih =>
    cases i with
    | zero => cases h; exact ⟨rfl, rfl, rfl⟩
    | succ i =>
      have := ih i (by simpa using h)
      have e0 : ∀ j, (entsCells (q :: qs))[j + 3]? = (entsCells qs)[j]? := fun j => by
        show (entCells q ++ entsCells qs)[j + 3]? = _
        rw [List.getElem?_append_right (by show 3 ≤ _; omega)]; show (entsCells qs)[j + 3 - 3]? = _; rw [Nat.add_sub_cancel]
      refine ⟨?_, ?_, ?_⟩
      · rw [show (i + 1) * 3 = i * 3 + 3 by omega, e0]; exact this.1
      · rw [show (i + 1) * 3 + 1 = i * 3 + 1 + 3 by omega, e0]; exact this.2.1
      · rw [show (i + 1) * 3 + 2 = i * 3 + 2 + 3 by omega, e0]; exact this.2.2
/-- What a record of an entry is asked to be: its key's length is one that a machine has. -/
def Rec.ok (r : Rec) : Prop := r.key.length ≤ maxLen ∧ r.val.length ≤ maxLen ∧ r.lsn < 18446744073709551616
structure Entry.ok (x : Entry) : Prop where
  ts : x.ts < 18446744073709551616
  first : x.first < 18446744073709551616
  ops : ∀ r ∈ x.ops, r.ok
/-- An entry that lies so. -/
structure EntIs (w : World) (e : Ent) (x : Entry) : Prop where
  ts : e.ts = x.ts
  first : e.first = x.first
  n : e.n = x.ops.length
  rows : RowsAt w e.a e.n e.c 4 (recsCells x.ops)
  ok : x.ok
theorem EntIs.on {w w' : World} {e : Ent} {x : Entry} (h : EntIs w e x) (hb : Below w.heap.size w w') : EntIs w' e x := ⟨h.ts, h.first, h.n, h.rows.on hb, h.ok⟩
theorem EntIs.mod {S : List Nat} {w w' : World} {e : Ent} {x : Entry} (h : EntIs w e x) (hm : Mod S w w') (hS : Off S e.a) : EntIs w' e x := ⟨h.ts, h.first, h.n, h.rows.mod hm hS, h.ok⟩
/-- A slice of entries. -/
structure EntsAt (w : World) (a : Option Addr) (n c : Nat) (z : List (Ent × Entry)) : Prop where
  len : z.length = n
  rows : RowsAt w a n c 3 (entsCells (z.map (·.1)))
  each : ∀ q ∈ z, EntIs w q.1 q.2
theorem EntsAt.on {w w' : World} {a : Option Addr} {n c : Nat} {z : List (Ent × Entry)} (h : EntsAt w a n c z) (hb : Below w.heap.size w w') : EntsAt w' a n c z := ⟨h.len, h.rows.on hb, fun q hq => (h.each q hq).on hb⟩
theorem info_entry : (Try.prog.info? 40).map (fun i => (i.zero, i.size, i.bytes)) = some (some (.agg #[.int .u64 0, .int .u64 0, .slice none 0 0]), 3, 40) := by kernel_rfl
set_option maxRecDepth 100000 in
set_option maxHeartbeats 1000000 in
theorem cloneE_any (w : World) (a : Option Addr) (n c : Nat) (es : List Ent) (h : RowsAt w a n c 3 (entsCells es)) (hn : n ≤ 1000000) :
    Calls Try.prog 53 #[.slice a n c] w fun e w' => ∃ v, e = .returned v ∧ w'.ownsRow w.heap.size 40 3 v n (entsCells es) ∧ Below w.heap.size w w' := by
  have q22 : ∀ (w : World) (a : Option Addr) (n c n' c' : Nat), (binOp .eql 25 (.slice a n c) (.slice none n' c')).run Try.prog w = .ok (.bool a.isNone) w := fun w a n c n' c' => Lib.run_eql_slice_nil w _ _ a n c n' c' Try.underlying25
  have HR := Lib.hid h
  have HN := Lib.hid hn
  clear h hn
  cases a with
  | none =>
    go_enter Try.func53, Try.ntmps53
    go_wp2_with fail
    go_ret
    have hn0 : n = 0 := by
      rcases Nat.eq_zero_or_pos n with h0 | h0
      · exact h0
      · obtain ⟨g, o, e, _⟩ := HR.out.at_ h0
        cases e
    subst hn0
    have hl := HR.out.len
    have hes : es = [] := by rw [ents_length] at hl; exact List.eq_nil_of_length_eq_zero (by omega)
    subst hes
    exact ⟨_, rfl, ⟨rfl, .inl ⟨rfl, rfl⟩⟩, Below.refl _ _⟩
  | some p =>
    obtain ⟨i0, hi, hz0, hz1, hz2⟩ := info_parts info_entry
    go_enter Try.func53, Try.ntmps53
    go_wp2_with (at_builtin; refine wpList_append_own _ rfl _ _ 25 rfl w.heap.size 40 i0 _ 3 40 Try.underlying25 hi hz0 hz1 hz2 rfl (by decide) _ _ _ rfl (World.ownsRow_made w #[] 0 (Nat.le_refl _) (Nat.zero_le _) rfl) p n c (entsCells es) rfl ?qc1 ?qc2 ?qc3 ?qc4 ?qc5 ?qc6 ?_)
    case qc1 => exact HR.out.len
    case qc2 =>
      intro j u hj
      have hl := HR.out.len
      have hjn := (List.getElem?_eq_some_iff.1 hj).1
      obtain ⟨g, o, e, _, hc⟩ := HR.out.at_ (by omega)
      cases e
      rw [addr_add']
      exact Lib.cell?_alloc_some _ (hc j u hj)
    case qc3 =>
      intro u hu
      obtain ⟨x, _, hx⟩ := List.mem_flatMap.1 hu
      simp only [entCells, List.mem_cons, List.not_mem_nil, or_false] at hx
      rcases hx with rfl | rfl | rfl <;> rfl
    case qc4 => have := HN.out; unfold maxLen; omega
    case qc5 => have := HN.out; omega
    case qc6 => simp
    intro v' w1 hown hgrow hnil
    have HOwn := Lib.hid hown
    have HG := Lib.hid hgrow
    clear hown hgrow hnil
    go_wp2_with fail
    go_ret
    exact ⟨v', rfl, by simpa using HOwn.out, ((Below.refl _ w).alloc (Nat.le_refl _) _).grown HG.out (by simp) (by intro k hk; simp [Value.ownBlock] at hk; omega)⟩
end Go.Proofs.Ytffianjbljgnaaa
