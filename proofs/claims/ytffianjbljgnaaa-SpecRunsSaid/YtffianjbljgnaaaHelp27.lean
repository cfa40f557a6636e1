/-
  Helpers for closed walks over calls and entries: slices of them that are built, and what is asked of few of them. No condition.
-/
import Derived.Test.YtffianjbljgnaaaWork27
import Derived.Test.YtffianjbljgnaaaOrder
import Derived.Test.YtffianjbljgnaaaApply
import Derived.Test.YtffianjbljgnaaaEqs
namespace Go.Proofs.Ytffianjbljgnaaa
set_option linter.unusedVariables false
set_option linter.unusedSimpArgs false
open Go.RowKit Go.Maps

theorem EntsAt.nil (w : World) : EntsAt w none 0 0 [] := ⟨rfl, RowsAt.nil _ _, by simp⟩
theorem MadeAt.nil (w : World) : MadeAt w none 0 0 [] := ⟨rfl, RowsAt.nil _ _, by simp⟩
theorem madeAt_of {w : World} {xb : Nat} {Q : List MZ} (hX : Blk w xb (mdsCells (Q.map (·.1))) 37) (hQ : ∀ q ∈ Q, MdIs w q) (n : Nat) (hn : n = Q.length) (hm : n ≤ 1000000) : MadeAt w (some ⟨xb, 0, none⟩) n n Q :=
  ⟨hn.symm, RowsAt.of_blk (rest := []) (by rw [List.append_nil]; exact hX) (by rw [mds_length, List.length_map, hn]) (Nat.le_refl _) (by omega), hQ⟩
theorem entsAt_of {w : World} {xb : Nat} {Q : List EZ} (hX : Blk w xb (entsCells (Q.map (·.1))) 40) (hQ : ∀ q ∈ Q, EntIs w q.1 q.2) (n : Nat) (hn : n = Q.length) (hm : n ≤ 1000000) : EntsAt w (some ⟨xb, 0, none⟩) n n Q :=
  ⟨hn.symm, RowsAt.of_blk (rest := []) (by rw [List.append_nil]; exact hX) (by rw [ents_length, List.length_map, hn]) (Nat.le_refl _) (by omega), hQ⟩
theorem recsAt_of {w : World} {xb : Nat} {Q : List Rec} (hX : Blk w xb (recsCells Q) 58) (n : Nat) (hn : n = Q.length) (hm : n ≤ 1000000) : RowsAt w (some ⟨xb, 0, none⟩) n n 4 (recsCells Q) :=
  RowsAt.of_blk (rest := []) (by rw [List.append_nil]; exact hX) (by rw [recs_length, hn]) (Nat.le_refl _) (by omega)
theorem pairsAt_of {w : World} {xb : Nat} {Q : List KV} (hX : Blk w xb (pairsCells Q) 47) (n : Nat) (hn : n = Q.length) (hm : n ≤ 1000000) : RowsAt w (some ⟨xb, 0, none⟩) n n 2 (pairsCells Q) :=
  RowsAt.of_blk (rest := []) (by rw [List.append_nil]; exact hX) (by rw [pairs_length, hn]) (Nat.le_refl _) (by omega)
theorem numsAt_of {w : World} {xb : Nat} {Q : List Nat} (hX : Blk w xb (u64s Q) 29) (n : Nat) (hn : n = Q.length) (hm : n ≤ 1000000) : RowsAt w (some ⟨xb, 0, none⟩) n n 1 (u64s Q) :=
  RowsAt.of_blk (rest := []) (by rw [List.append_nil]; exact hX) (by unfold u64s; rw [List.length_map, hn]; omega) (Nat.le_refl _) (by omega)
def smallQ (q : MZ) : Bool := decide (q.1.pn ≤ 1000) && (decide (0 ≤ q.1.kind) && decide (q.1.kind ≤ 10))
theorem smallQ_ok {zm : List MZ} (h : zm.all smallQ = true) : MadeOk zm := by
  have hq : ∀ q ∈ zm, q.1.pn ≤ 1000 ∧ 0 ≤ q.1.kind ∧ q.1.kind ≤ 10 := fun q hq => by
    have := List.all_eq_true.1 h q hq
    unfold smallQ at this
    simp only [Bool.and_eq_true, decide_eq_true_eq] at this
    exact this
  exact ⟨fun q h => by have := hq q h; omega, fun q h => by have := hq q h; omega⟩
theorem serialK (w : World) (a : Option Addr) (n c : Nat) (z : List EZ) (h : EntsAt w a n c z) (hn : n ≤ 12) (hops : z.all (fun q => decide (q.2.ops.length ≤ 1000)) = true)
    (am : Option Addr) (nm cm : Nat) (zm : List MZ) (hm : MadeAt w am nm cm zm) (hnm : nm ≤ 12) (hk : zm.all smallQ = true) (v : Int) (hv : serialL zm z [] (commL (z.map (·.1.ts)) zm) = v) :
    Calls Try.prog 8 #[.slice a n c, .slice am nm cm] w fun e w' => e = .returned (.int .i64 v) ∧ Below w.heap.size w w' := by
  have hl := hm.len
  rw [← hv]
  exact serial_any w a n c z h (by omega) (fun q hq => by have := List.all_eq_true.1 hops q hq; simpa using this) am nm cm zm hm (by omega) (smallQ_ok hk)
    (by have := commL_le (z.map (·.1.ts)) zm; unfold BoundU; omega) (fun ts => by have := indsP_le ts zm zm.length; unfold BoundC; exact Nat.lt_of_le_of_lt this (by omega))
theorem commK (w : World) (a : Option Addr) (n c : Nat) (z : List EZ) (h : EntsAt w a n c z) (hn : n ≤ 12) (am : Option Addr) (nm cm : Nat) (zm : List MZ) (hm : MadeAt w am nm cm zm) (hnm : nm ≤ 12) (L : List Nat) (hv : commL (z.map (·.1.ts)) zm = L) :
    Calls Try.prog 11 #[.slice am nm cm, .slice a n c] w (CommEnd L w) := by
  have hl := hm.len
  rw [← hv]
  exact comm_any w am nm cm zm hm (by omega) a n c z h (by omega) (by have := commL_le (z.map (·.1.ts)) zm; unfold BoundU; omega)
theorem orderK (w : World) (am : Option Addr) (nm cm : Nat) (zm : List MZ) (hm : MadeAt w am nm cm zm) (hnm : nm ≤ 12) (v : Int) (hv : orderL zm = v) :
    Calls Try.prog 25 #[.slice am nm cm] w fun e w' => e = .returned (.int .i64 v) ∧ Below w.heap.size w w' := by
  rw [← hv]
  exact order_any w am nm cm zm hm (by omega)
theorem writeK (ts : Nat) (key val : Txt) (hts : ts < 18446744073709551616) (hk : key.length ≤ maxLen) (hv : val.length ≤ maxLen) (w : World) :
    Calls Try.prog 21 #[.int .u64 (ts : Nat), .string ⟨key.toArray⟩, .string ⟨val.toArray⟩] w fun e w' => ∃ (a : Option Addr) (n c : Nat), e = .returned (.agg #[.int .u64 (ts : Nat), .int .u64 (ts : Nat), .slice a n c]) ∧ EntIs w' ⟨ts, ts, a, n, c⟩ (mkE ts key val) ∧ Below w.heap.size w w' :=
  (writeE_any ts key val hts hk hv w).mono fun e w' ⟨a, n, c, h1, h2, _, h3⟩ => ⟨a, n, c, h1, h2, h3⟩
section
variable {ops : Array Oper} {rest : List Oper} {o : Oper} {a : Act} {w : World} {Q : Exit → Act → World → Prop}
/-- An operation that is wanted, without its guard. -/
theorem wpList_free (hw : Region.wanted o (yielded ops a.tmps) = true) (h : wpList Try.prog ops Q ({ o with guard := none } :: rest) a w) : wpList Try.prog ops Q (o :: rest) a w := by
  unfold wpList at h ⊢
  rw [if_pos hw]
  rw [if_pos (by simp [Region.wanted])] at h
  cases o
  exact h
theorem exec_load (ty : TypeId) (x : Operand) (ho : o.op = .load ty x) (p : Value) (hx : a.eval x = p) {v : Value} (hr : (Instr.loadAt ty p).run Try.prog w = .ok v w) : (execOp a.eval o).run Try.prog w = .ok (.value v) w := by
  unfold execOp
  simp only [ho, hx, Sem.run_bind, hr, Result.andThen_ok, Sem.run_pure]
theorem wp_buildM1 {K : Act → World → Prop} (x0 : Operand) (ho : o.op = .buildSlice 24 1 #[(0, x0)]) (m0 : Md)
    (h0 : a.eval x0 = .agg (mdCells m0).toArray)
    (h : K (a.put o.dst (.slice (some ⟨w.heap.size, 0, none⟩) 1 1)) (w.alloc (.cells (mdsCells [m0]).toArray 37))) : Oper.wp Try.prog o a w K Q := by
  obtain ⟨ie, z, hie, hz, hs, hzc⟩ := info_made0
  refine wp_buildSlice 24 37 1 _ ho (mdsCells [m0]).toArray ie z Try.underlying24 hie hz (by rw [hs]; decide) (by rw [hs]; decide) ?_ h
  rw [hs, hzc]
  have e : (Array.map (fun x : Nat × Operand => (x.1, a.eval x.2)) #[(0, x0)]).toList = [(0, .agg (mdCells m0).toArray)] := by
    simp [h0]
  refine Eq.trans (congrArg _ e) ?_
  kernel_rfl
theorem wpList_buildM1 (hg : o.guard = none) (x0 : Operand) (ho : o.op = .buildSlice 24 1 #[(0, x0)]) (m0 : Md)
    (h0 : a.eval x0 = .agg (mdCells m0).toArray)
    (h : wpList Try.prog ops Q rest (a.put o.dst (.slice (some ⟨w.heap.size, 0, none⟩) 1 1)) (w.alloc (.cells (mdsCells [m0]).toArray 37))) : wpList Try.prog ops Q (o :: rest) a w :=
  wpList_plain hg fun _ hK => wp_buildM1 x0 ho m0 h0 (hK _ _ h)
theorem wp_buildM2 {K : Act → World → Prop} (x0 x1 : Operand) (ho : o.op = .buildSlice 24 2 #[(0, x0), (1, x1)]) (m0 m1 : Md)
    (h0 : a.eval x0 = .agg (mdCells m0).toArray) (h1 : a.eval x1 = .agg (mdCells m1).toArray)
    (h : K (a.put o.dst (.slice (some ⟨w.heap.size, 0, none⟩) 2 2)) (w.alloc (.cells (mdsCells [m0, m1]).toArray 37))) : Oper.wp Try.prog o a w K Q := by
  obtain ⟨ie, z, hie, hz, hs, hzc⟩ := info_made0
  refine wp_buildSlice 24 37 2 _ ho (mdsCells [m0, m1]).toArray ie z Try.underlying24 hie hz (by rw [hs]; decide) (by rw [hs]; decide) ?_ h
  rw [hs, hzc]
  have e : (Array.map (fun x : Nat × Operand => (x.1, a.eval x.2)) #[(0, x0), (1, x1)]).toList = [(0, .agg (mdCells m0).toArray), (1, .agg (mdCells m1).toArray)] := by
    simp [h0, h1]
  refine Eq.trans (congrArg _ e) ?_
  kernel_rfl
theorem wpList_buildM2 (hg : o.guard = none) (x0 x1 : Operand) (ho : o.op = .buildSlice 24 2 #[(0, x0), (1, x1)]) (m0 m1 : Md)
    (h0 : a.eval x0 = .agg (mdCells m0).toArray) (h1 : a.eval x1 = .agg (mdCells m1).toArray)
    (h : wpList Try.prog ops Q rest (a.put o.dst (.slice (some ⟨w.heap.size, 0, none⟩) 2 2)) (w.alloc (.cells (mdsCells [m0, m1]).toArray 37))) : wpList Try.prog ops Q (o :: rest) a w :=
  wpList_plain hg fun _ hK => wp_buildM2 x0 x1 ho m0 m1 h0 h1 (hK _ _ h)
theorem wp_buildM8 {K : Act → World → Prop} (x0 x1 x2 x3 x4 x5 x6 x7 : Operand) (ho : o.op = .buildSlice 24 8 #[(0, x0), (1, x1), (2, x2), (3, x3), (4, x4), (5, x5), (6, x6), (7, x7)]) (m0 m1 m2 m3 m4 m5 m6 m7 : Md)
    (h0 : a.eval x0 = .agg (mdCells m0).toArray) (h1 : a.eval x1 = .agg (mdCells m1).toArray) (h2 : a.eval x2 = .agg (mdCells m2).toArray) (h3 : a.eval x3 = .agg (mdCells m3).toArray) (h4 : a.eval x4 = .agg (mdCells m4).toArray) (h5 : a.eval x5 = .agg (mdCells m5).toArray) (h6 : a.eval x6 = .agg (mdCells m6).toArray) (h7 : a.eval x7 = .agg (mdCells m7).toArray)
    (h : K (a.put o.dst (.slice (some ⟨w.heap.size, 0, none⟩) 8 8)) (w.alloc (.cells (mdsCells [m0, m1, m2, m3, m4, m5, m6, m7]).toArray 37))) : Oper.wp Try.prog o a w K Q := by
  obtain ⟨ie, z, hie, hz, hs, hzc⟩ := info_made0
  refine wp_buildSlice 24 37 8 _ ho (mdsCells [m0, m1, m2, m3, m4, m5, m6, m7]).toArray ie z Try.underlying24 hie hz (by rw [hs]; decide) (by rw [hs]; decide) ?_ h
  rw [hs, hzc]
  have e : (Array.map (fun x : Nat × Operand => (x.1, a.eval x.2)) #[(0, x0), (1, x1), (2, x2), (3, x3), (4, x4), (5, x5), (6, x6), (7, x7)]).toList = [(0, .agg (mdCells m0).toArray), (1, .agg (mdCells m1).toArray), (2, .agg (mdCells m2).toArray), (3, .agg (mdCells m3).toArray), (4, .agg (mdCells m4).toArray), (5, .agg (mdCells m5).toArray), (6, .agg (mdCells m6).toArray), (7, .agg (mdCells m7).toArray)] := by
    simp [h0, h1, h2, h3, h4, h5, h6, h7]
  refine Eq.trans (congrArg _ e) ?_
  kernel_rfl
theorem wpList_buildM8 (hg : o.guard = none) (x0 x1 x2 x3 x4 x5 x6 x7 : Operand) (ho : o.op = .buildSlice 24 8 #[(0, x0), (1, x1), (2, x2), (3, x3), (4, x4), (5, x5), (6, x6), (7, x7)]) (m0 m1 m2 m3 m4 m5 m6 m7 : Md)
    (h0 : a.eval x0 = .agg (mdCells m0).toArray) (h1 : a.eval x1 = .agg (mdCells m1).toArray) (h2 : a.eval x2 = .agg (mdCells m2).toArray) (h3 : a.eval x3 = .agg (mdCells m3).toArray) (h4 : a.eval x4 = .agg (mdCells m4).toArray) (h5 : a.eval x5 = .agg (mdCells m5).toArray) (h6 : a.eval x6 = .agg (mdCells m6).toArray) (h7 : a.eval x7 = .agg (mdCells m7).toArray)
    (h : wpList Try.prog ops Q rest (a.put o.dst (.slice (some ⟨w.heap.size, 0, none⟩) 8 8)) (w.alloc (.cells (mdsCells [m0, m1, m2, m3, m4, m5, m6, m7]).toArray 37))) : wpList Try.prog ops Q (o :: rest) a w :=
  wpList_plain hg fun _ hK => wp_buildM8 x0 x1 x2 x3 x4 x5 x6 x7 ho m0 m1 m2 m3 m4 m5 m6 m7 h0 h1 h2 h3 h4 h5 h6 h7 (hK _ _ h)
end
end Go.Proofs.Ytffianjbljgnaaa
