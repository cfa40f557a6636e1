/-
  Calls that were made, as they lie in memory; acknowledged. No condition.
-/
import Derived.Test.YtffianjbljgnaaaEntsA
import Derived.Test.YtffianjbljgnaaaStab
import Derived.Shelf.SlicesQ.Load
import Derived.Deep.WholeRow
import Derived.Deep.MidRow
namespace Go.Proofs.Ytffianjbljgnaaa
set_option linter.unusedVariables false
set_option linter.unusedSimpArgs false
open Go.RowKit

/-- A call that was made, as it lies. -/
structure Md where
  ts : Nat
  n : Int
  kind : Int
  cts : Nat
  key : Txt
  hi : Txt
  val : Txt
  dn : Bool
  ots : Nat
  on : Int
  err : Int
  found : Bool
  oval : Txt
  pa : Option Addr
  pn : Nat
  pc : Nat
  frm : Int
  til : Int
def callCells (m : Md) : List Value := [.int .i64 m.kind, .int .u64 (m.cts : Nat), .string ⟨m.key.toArray⟩, .string ⟨m.hi.toArray⟩, .string ⟨m.val.toArray⟩]
def outCells (m : Md) : List Value := [.int .u64 (m.ots : Nat), .int .i64 m.on, .int .i64 m.err, .bool m.found, .string ⟨m.oval.toArray⟩, .slice m.pa m.pn m.pc]
def mdCells (m : Md) : List Value := [.int .u64 (m.ts : Nat), .int .i64 m.n, .int .i64 m.kind, .int .u64 (m.cts : Nat), .string ⟨m.key.toArray⟩, .string ⟨m.hi.toArray⟩, .string ⟨m.val.toArray⟩, .bool m.dn, .int .u64 (m.ots : Nat), .int .i64 m.on, .int .i64 m.err, .bool m.found, .string ⟨m.oval.toArray⟩, .slice m.pa m.pn m.pc, .int .i64 m.frm, .int .i64 m.til]
def mdsCells (l : List Md) : List Value := l.flatMap mdCells
theorem mds_length (l : List Md) : (mdsCells l).length = l.length * 16 := by
  induction l with
  | nil => rfl
  | cons e t ih => show (mdCells e ++ mdsCells t).length = _; rw [List.length_append, ih, List.length_cons]; show 16 + _ = _; omega
theorem mds_append (l m : List Md) : mdsCells (l ++ m) = mdsCells l ++ mdsCells m := by unfold mdsCells; rw [List.flatMap_append]
theorem mds_get (l : List Md) (i : Nat) (m : Md) (h : l[i]? = some m) (k : Nat) (hk : k < 16) : (mdsCells l)[i * 16 + k]? = (mdCells m)[k]? := by
  induction l generalizing i with
  | nil => simp at h
  | cons q qs ih =>
    cases i with
    | zero =>
      cases h
      show (mdCells m ++ mdsCells qs)[0 * 16 + k]? = _
      rw [Nat.zero_mul, Nat.zero_add, List.getElem?_append_left (by show k < 16; exact hk)]
    | succ i =>
      have := ih i (by simpa using h)
      show (mdCells q ++ mdsCells qs)[(i + 1) * 16 + k]? = _
      rw [List.getElem?_append_right (by show 16 ≤ _; omega), ← this]
      show (mdsCells qs)[(i + 1) * 16 + k - 16]? = _
      rw [show (i + 1) * 16 + k - 16 = i * 16 + k by omega]
abbrev MZ := Md × List KV
def isI (z : Int) : Prop := -9223372036854775808 ≤ z ∧ z ≤ 9223372036854775807
/-- A call that lies so, with its pairs. -/
structure MdIs (w : World) (q : MZ) : Prop where
  n : q.1.pn = q.2.length
  rows : RowsAt w q.1.pa q.1.pn q.1.pc 2 (pairsCells q.2)
  ts : q.1.ts < 18446744073709551616
  key : q.1.key.length ≤ maxLen
theorem MdIs.on {w w' : World} {q : MZ} (h : MdIs w q) (hb : Below w.heap.size w w') : MdIs w' q := ⟨h.n, h.rows.on hb, h.ts, h.key⟩
/-- A slice of calls. -/
structure MadeAt (w : World) (a : Option Addr) (n c : Nat) (z : List MZ) : Prop where
  len : z.length = n
  rows : RowsAt w a n c 16 (mdsCells (z.map (·.1)))
  each : ∀ q ∈ z, MdIs w q
theorem MadeAt.on {w w' : World} {a : Option Addr} {n c : Nat} {z : List MZ} (h : MadeAt w a n c z) (hb : Below w.heap.size w w') : MadeAt w' a n c z := ⟨h.len, h.rows.on hb, fun q hq => (h.each q hq).on hb⟩
/-- The cells of a call. -/
def MdCellsAt (w : World) (g o : Nat) (m : Md) : Prop :=
  w.cell? ⟨g, o, none⟩ = some (.int .u64 (m.ts : Nat)) ∧ w.cell? ⟨g, o + 1, none⟩ = some (.int .i64 m.n) ∧ w.cell? ⟨g, o + 2, none⟩ = some (.int .i64 m.kind) ∧ w.cell? ⟨g, o + 3, none⟩ = some (.int .u64 (m.cts : Nat)) ∧
  w.cell? ⟨g, o + 4, none⟩ = some (.string ⟨m.key.toArray⟩) ∧ w.cell? ⟨g, o + 5, none⟩ = some (.string ⟨m.hi.toArray⟩) ∧ w.cell? ⟨g, o + 6, none⟩ = some (.string ⟨m.val.toArray⟩) ∧ w.cell? ⟨g, o + 7, none⟩ = some (.bool m.dn) ∧
  w.cell? ⟨g, o + 8, none⟩ = some (.int .u64 (m.ots : Nat)) ∧ w.cell? ⟨g, o + 9, none⟩ = some (.int .i64 m.on) ∧ w.cell? ⟨g, o + 10, none⟩ = some (.int .i64 m.err) ∧ w.cell? ⟨g, o + 11, none⟩ = some (.bool m.found) ∧
  w.cell? ⟨g, o + 12, none⟩ = some (.string ⟨m.oval.toArray⟩) ∧ w.cell? ⟨g, o + 13, none⟩ = some (.slice m.pa m.pn m.pc) ∧ w.cell? ⟨g, o + 14, none⟩ = some (.int .i64 m.frm) ∧ w.cell? ⟨g, o + 15, none⟩ = some (.int .i64 m.til)
theorem MadeAt.row {w : World} {a : Option Addr} {n c : Nat} {z : List MZ} (h : MadeAt w a n c z) {i : Nat} (hi : i < n) :
    ∃ (q : MZ) (g o : Nat), z[i]? = some q ∧ q ∈ z ∧ a = some ⟨g, o, none⟩ ∧ g < w.heap.size ∧ MdCellsAt w g (o + i * 16) q.1 := by
  have hl : i < z.length := by rw [h.len]; exact hi
  obtain ⟨g, o, e, hg, hc⟩ := h.rows.at_ (by omega)
  have hz : (z.map (·.1))[i]? = some z[i].1 := by rw [List.getElem?_map, List.getElem?_eq_getElem hl]; rfl
  have key : ∀ k v, k < 16 → (mdCells z[i].1)[k]? = some v → w.cell? ⟨g, o + i * 16 + k, none⟩ = some v := fun k v hk hv => by
    rw [Nat.add_assoc]
    exact hc _ _ (by rw [mds_get _ _ _ hz k hk]; exact hv)
  exact ⟨z[i], g, o, List.getElem?_eq_getElem hl, List.getElem_mem hl, e, hg, key 0 _ (by omega) rfl, key 1 _ (by omega) rfl, key 2 _ (by omega) rfl, key 3 _ (by omega) rfl, key 4 _ (by omega) rfl, key 5 _ (by omega) rfl, key 6 _ (by omega) rfl, key 7 _ (by omega) rfl, key 8 _ (by omega) rfl, key 9 _ (by omega) rfl, key 10 _ (by omega) rfl, key 11 _ (by omega) rfl, key 12 _ (by omega) rfl, key 13 _ (by omega) rfl, key 14 _ (by omega) rfl, key 15 _ (by omega) rfl⟩
theorem MdCellsAt.range {w : World} {g o : Nat} {m : Md} (h : MdCellsAt w g o m) : w.rangeAt g o (mdCells m) := fun j v hv => by
  obtain ⟨c0, c1, c2, c3, c4, c5, c6, c7, c8, c9, c10, c11, c12, c13, c14, c15⟩ := h
  have hj := (List.getElem?_eq_some_iff.1 hv).1
  have hj16 : j < 16 := hj
  have hjj : j = 0 ∨ j = 1 ∨ j = 2 ∨ j = 3 ∨ j = 4 ∨ j = 5 ∨ j = 6 ∨ j = 7 ∨ j = 8 ∨ j = 9 ∨ j = 10 ∨ j = 11 ∨ j = 12 ∨ j = 13 ∨ j = 14 ∨ j = 15 := by omega
  rcases hjj with rfl | rfl | rfl | rfl | rfl | rfl | rfl | rfl | rfl | rfl | rfl | rfl | rfl | rfl | rfl | rfl <;> (cases hv; assumption)
theorem MdCellsAt.on {w w' : World} {g o : Nat} {m : Md} (h : MdCellsAt w g o m) (hg : g < w.heap.size) (hb : Below w.heap.size w w') : MdCellsAt w' g o m := by
  obtain ⟨c0, c1, c2, c3, c4, c5, c6, c7, c8, c9, c10, c11, c12, c13, c14, c15⟩ := h
  exact ⟨(hb.cell (p := ⟨g, o, none⟩) hg).trans c0, (hb.cell (p := ⟨g, o + 1, none⟩) hg).trans c1, (hb.cell (p := ⟨g, o + 2, none⟩) hg).trans c2, (hb.cell (p := ⟨g, o + 3, none⟩) hg).trans c3, (hb.cell (p := ⟨g, o + 4, none⟩) hg).trans c4, (hb.cell (p := ⟨g, o + 5, none⟩) hg).trans c5, (hb.cell (p := ⟨g, o + 6, none⟩) hg).trans c6, (hb.cell (p := ⟨g, o + 7, none⟩) hg).trans c7, (hb.cell (p := ⟨g, o + 8, none⟩) hg).trans c8, (hb.cell (p := ⟨g, o + 9, none⟩) hg).trans c9, (hb.cell (p := ⟨g, o + 10, none⟩) hg).trans c10, (hb.cell (p := ⟨g, o + 11, none⟩) hg).trans c11, (hb.cell (p := ⟨g, o + 12, none⟩) hg).trans c12, (hb.cell (p := ⟨g, o + 13, none⟩) hg).trans c13, (hb.cell (p := ⟨g, o + 14, none⟩) hg).trans c14, (hb.cell (p := ⟨g, o + 15, none⟩) hg).trans c15⟩
theorem info_made (m : Md) : (Try.prog.info? 37).map (·.size) = some (mdCells m).length := by kernel_rfl
section
variable {ops : Array Oper} {rest : List Oper} {op : Oper} {a : Act} {w : World} {Q : Exit → Act → World → Prop}
/-- The load of a call, whole. -/
theorem wpList_loadM (hgd : op.guard = none) (x : Operand) (ho : op.op = .load 37 x) (g o : Nat) (m : Md) (hc : MdCellsAt w g o m) (hx : a.eval x = .pointer (some ⟨g, o, none⟩))
    (h : wpList Try.prog ops Q rest (a.put op.dst (.agg (mdCells m).toArray)) w) : wpList Try.prog ops Q (op :: rest) a w :=
  wpList_load_mid hgd 37 x ho g o hx (mdCells m) _ hc.range Try.underlying37 rfl (info_made m) h
/-- A call's cells, laid into a block that is new. -/
theorem wpList_storeM (hgd : op.guard = none) (x y : Operand) (ho : op.op = .store 37 x y) (w0 : World) (m : Md) (hx : a.eval x = .pointer (some ⟨w0.heap.size, 0, none⟩)) (hy : a.eval y = .agg (mdCells m).toArray)
    (h : wpList Try.prog ops Q rest (a.put op.dst undef) (w0.alloc (.cells (mdCells m).toArray 37))) : wpList Try.prog ops Q (op :: rest) a (w0.alloc (.cells #[.int .u64 0, .int .i64 0, .int .i64 0, .int .u64 0, .string ⟨#[]⟩, .string ⟨#[]⟩, .string ⟨#[]⟩, .bool false, .int .u64 0, .int .i64 0, .int .i64 0, .bool false, .string ⟨#[]⟩, .slice none 0 0, .int .i64 0, .int .i64 0] 37)) :=
  wpList_plain hgd fun _ hK => by
    unfold Oper.wp execOp
    simp only [ho, hx, hy, Instr.storeAt, Instr.sureAddr, Sem.run_bind, Sem.run_pure, Result.andThen_ok, run_storeVar_new (P := Try.prog) w0 37 #[.int .u64 0, .int .i64 0, .int .i64 0, .int .u64 0, .string ⟨#[]⟩, .string ⟨#[]⟩, .string ⟨#[]⟩, .bool false, .int .u64 0, .int .i64 0, .int .i64 0, .bool false, .string ⟨#[]⟩, .slice none 0 0, .int .i64 0, .int .i64 0] (mdCells m).toArray (by kernel_rfl) rfl (by simp [mdCells, Value.oneCell'])]
    exact hK _ _ h
end
theorem md_box (w : World) (m : Md) : MdCellsAt (w.alloc (.cells (mdCells m).toArray 37)) w.heap.size 0 m := by
  have h : Blk (w.alloc (.cells (mdCells m).toArray 37)) w.heap.size (mdCells m) 37 := Blk.new w (mdCells m) _
  refine ⟨?_, ?_, ?_, ?_, ?_, ?_, ?_, ?_, ?_, ?_, ?_, ?_, ?_, ?_, ?_, ?_⟩ <;> (rw [h.cell]; rfl)
/-- Is a call a commit that is acknowledged? -/
def ackM (m : Md) : Bool := decide (m.kind = 5) && (m.dn && decide (m.err = 0))
set_option maxRecDepth 100000 in
set_option maxHeartbeats 2000000 in
theorem ack_any (m : Md) (w : World) : Calls Try.prog 35 #[.agg (mdCells m).toArray] w fun e w' => e = .returned (.bool (ackM m)) ∧ Below w.heap.size w w' := by
  obtain ⟨ts, n, kind, cts, key, hi, val, dn, ots, on, err, found, oval, pa, pn, pc, frm, til⟩ := m
  have hb := (Below.refl w.heap.size w).alloc (Nat.le_refl _) (.cells (mdCells ⟨ts, n, kind, cts, key, hi, val, dn, ots, on, err, found, oval, pa, pn, pc, frm, til⟩).toArray 37)
  show Calls Try.prog 35 #[.agg #[.int .u64 (ts : Nat), .int .i64 n, .int .i64 kind, .int .u64 (cts : Nat), .string ⟨key.toArray⟩, .string ⟨hi.toArray⟩, .string ⟨val.toArray⟩, .bool dn, .int .u64 (ots : Nat), .int .i64 on, .int .i64 err, .bool found, .string ⟨oval.toArray⟩, .slice pa pn pc, .int .i64 frm, .int .i64 til]] w _
  have HB := Lib.hid hb
  clear hb
  by_cases h1 : kind = 5
  · subst h1
    cases dn with
    | true =>
      by_cases h2 : err = 0
      · subst h2
        have HE := Lib.hid (show ackM ⟨ts, n, 5, cts, key, hi, val, true, ots, on, 0, found, oval, pa, pn, pc, frm, til⟩ = true by simp [ackM])
        go_enter Try.func35, Try.ntmps35
        go_wp2_with fail
        go_ret
        exact ⟨by rw [HE.out]; try rfl, HB.out⟩
      · have HE := Lib.hid (show ackM ⟨ts, n, 5, cts, key, hi, val, true, ots, on, err, found, oval, pa, pn, pc, frm, til⟩ = false by simp [ackM, h2])
        go_enter Try.func35, Try.ntmps35
        go_wp2_with fail
        go_ret
        exact ⟨by rw [HE.out]; simp [h2], HB.out⟩
    | false =>
      have HE := Lib.hid (show ackM ⟨ts, n, 5, cts, key, hi, val, false, ots, on, err, found, oval, pa, pn, pc, frm, til⟩ = false by simp [ackM])
      go_enter Try.func35, Try.ntmps35
      go_wp2_with fail
      go_ret
      exact ⟨by rw [HE.out]; try rfl, HB.out⟩
  · have HE := Lib.hid (show ackM ⟨ts, n, kind, cts, key, hi, val, dn, ots, on, err, found, oval, pa, pn, pc, frm, til⟩ = false by simp [ackM, h1])
    go_enter Try.func35, Try.ntmps35
    go_wp2_with fail
    go_ret
    exact ⟨by rw [HE.out]; try rfl, HB.out⟩
end Go.Proofs.Ytffianjbljgnaaa
