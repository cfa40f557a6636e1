/-
  LookKnown: the chapter's examples, walked. No condition. (Printed by gen_known28.py.)
-/
import Derived.Test.YtecknikehieioaaGreatLookY
namespace Go.Proofs.YtecknikehieioaaGreat
set_option linter.unusedVariables false
set_option linter.unusedSimpArgs false
open Go.RowKit Go.Maps

def snsCells (l : List Sn) : List Value := l.flatMap snCells
theorem sns_get (l : List Sn) (i : Nat) (s : Sn) (h : l[i]? = some s) (k : Nat) (hk : k < 12) : (snsCells l)[i * 12 + k]? = (snCells s)[k]? := by
  induction l generalizing i with
  | nil => simp at h
  | cons q qs ih =>
    cases i with
    | zero =>
      cases h
      show (snCells s ++ snsCells qs)[0 * 12 + k]? = _
      rw [Nat.zero_mul, Nat.zero_add, List.getElem?_append_left (by show k < 12; exact hk)]
    | succ i =>
      have := ih i (by simpa using h)
      show (snCells q ++ snsCells qs)[(i + 1) * 12 + k]? = _
      rw [List.getElem?_append_right (by show 12 ≤ _; omega), ← this]
      show (snsCells qs)[(i + 1) * 12 + k - 12]? = _
      rw [show (i + 1) * 12 + k - 12 = i * 12 + k by omega]
theorem sns_range {w : World} {g : Nat} {l : List Sn} {T : TypeId} (h : Blk w g (snsCells l) T) {i : Nat} {s : Sn} (hs : l[i]? = some s) : w.rangeAt g (i * 12) (snCells s) := fun j v hv => by
  rw [h.cell, sns_get l i s hs j (List.getElem?_eq_some_iff.1 hv).1]
  exact hv
theorem info_seen (s : Sn) : (Tryz.prog.info? 47).map (·.size) = some (snCells s).length := by kernel_rfl
theorem quietK (w : World) (s : Sn) (T : List Nat) (hl : T.length = s.an) (am : Option Addr) (nm cm : Nat) (zm : List MZ) (hm : MadeAt w am nm cm zm) (hnm : nm ≤ 100000) (b : Bool) (hv : quietL s T zm = b) :
    Calls Tryz.prog 21 #[.agg (snCells s).toArray, .slice am nm cm] w fun e w' => e = .returned (.bool b) ∧ Below w.heap.size w w' := by
  have := quiet_any w s T hl am nm cm zm hm hnm
  unfold QuietEnd at this
  rw [hv] at this
  exact this
section
variable {ops : Array Oper} {Q : Exit → Act → World → Prop} {o : Oper} {rest : List Oper} {a : Act} {w : World}
theorem wpList_loadS (hgd : o.guard = none) (x : Operand) (ho : o.op = .load 47 x) (g f : Nat) (s : Sn) (hc : w.rangeAt g f (snCells s)) (hx : a.eval x = .pointer (some ⟨g, f, none⟩))
    (h : wpList Tryz.prog ops Q rest (a.put o.dst (.agg (snCells s).toArray)) w) : wpList Tryz.prog ops Q (o :: rest) a w :=
  wpList_load_mid hgd 47 x ho g f hx (snCells s) _ hc Tryz.underlying47 rfl (info_seen s) h
theorem wpList_storeS (hgd : o.guard = none) (x y : Operand) (ho : o.op = .store 47 x y) (w0 : World) (s : Sn) (hx : a.eval x = .pointer (some ⟨w0.heap.size, 0, none⟩)) (hy : a.eval y = .agg (snCells s).toArray)
    (h : wpList Tryz.prog ops Q rest (a.put o.dst undef) (w0.alloc (.cells (snCells s).toArray 47))) : wpList Tryz.prog ops Q (o :: rest) a (w0.alloc (.cells #[.bool false, .bool false, .bool false, .bool false, .int .u64 0, .int .u64 0, .int .u64 0, .int .u64 0, .int .u64 0, .slice none 0 0, .slice none 0 0, .int .i64 0] 47)) :=
  wpList_plain hgd fun _ hK => by
    unfold Oper.wp execOp
    simp only [ho, hx, hy, Instr.storeAt, Instr.sureAddr, Sem.run_bind, Sem.run_pure, Result.andThen_ok, run_storeVar_new (P := Tryz.prog) w0 47 #[.bool false, .bool false, .bool false, .bool false, .int .u64 0, .int .u64 0, .int .u64 0, .int .u64 0, .int .u64 0, .slice none 0 0, .slice none 0 0, .int .i64 0] (snCells s).toArray (by kernel_rfl) rfl (by simp [snCells, Value.oneCell'])]
    exact hK _ _ h
theorem info_seen0 : ∃ ie z, Tryz.prog.info? 47 = some ie ∧ ie.zero = some z ∧ ie.size = 12 ∧ z.cells = #[.bool false, .bool false, .bool false, .bool false, .int .u64 0, .int .u64 0, .int .u64 0, .int .u64 0, .int .u64 0, .slice none 0 0, .slice none 0 0, .int .i64 0] := by
  have h : (Tryz.prog.info? 47).map (fun i => (i.zero, i.size)) = some (some (.agg #[.bool false, .bool false, .bool false, .bool false, .int .u64 0, .int .u64 0, .int .u64 0, .int .u64 0, .int .u64 0, .slice none 0 0, .slice none 0 0, .int .i64 0]), 12) := by kernel_rfl
  obtain ⟨i, hi, hzz⟩ := Option.map_eq_some_iff.1 h
  simp only [Prod.mk.injEq] at hzz
  exact ⟨i, _, hi, hzz.1, hzz.2, rfl⟩
theorem wp_buildS7 {K : Act → World → Prop} (x0 x1 x2 x3 x4 x5 x6 : Operand) (ho : o.op = .buildSlice 56 7 #[(0, x0), (1, x1), (2, x2), (3, x3), (4, x4), (5, x5), (6, x6)]) (s0 s1 s2 s3 s4 s5 s6 : Sn)
    (h0 : a.eval x0 = .agg (snCells s0).toArray) (h1 : a.eval x1 = .agg (snCells s1).toArray) (h2 : a.eval x2 = .agg (snCells s2).toArray) (h3 : a.eval x3 = .agg (snCells s3).toArray) (h4 : a.eval x4 = .agg (snCells s4).toArray) (h5 : a.eval x5 = .agg (snCells s5).toArray) (h6 : a.eval x6 = .agg (snCells s6).toArray)
    (h : K (a.put o.dst (.slice (some ⟨w.heap.size, 0, none⟩) 7 7)) (w.alloc (.cells (snsCells [s0, s1, s2, s3, s4, s5, s6]).toArray 47))) : Oper.wp Tryz.prog o a w K Q := by
  obtain ⟨ie, z, hie, hz, hs, hzc⟩ := info_seen0
  refine wp_buildSlice 56 47 7 _ ho (snsCells [s0, s1, s2, s3, s4, s5, s6]).toArray ie z Tryz.underlying56 hie hz (by rw [hs]; decide) (by rw [hs]; decide) ?_ h
  rw [hs, hzc]
  have e : (Array.map (fun x : Nat × Operand => (x.1, a.eval x.2)) #[(0, x0), (1, x1), (2, x2), (3, x3), (4, x4), (5, x5), (6, x6)]).toList = [(0, .agg (snCells s0).toArray), (1, .agg (snCells s1).toArray), (2, .agg (snCells s2).toArray), (3, .agg (snCells s3).toArray), (4, .agg (snCells s4).toArray), (5, .agg (snCells s5).toArray), (6, .agg (snCells s6).toArray)] := by
    simp [h0, h1, h2, h3, h4, h5, h6]
  refine Eq.trans (congrArg _ e) ?_
  kernel_rfl
theorem wpList_buildS7 (hg : o.guard = none) (x0 x1 x2 x3 x4 x5 x6 : Operand) (ho : o.op = .buildSlice 56 7 #[(0, x0), (1, x1), (2, x2), (3, x3), (4, x4), (5, x5), (6, x6)]) (s0 s1 s2 s3 s4 s5 s6 : Sn)
    (h0 : a.eval x0 = .agg (snCells s0).toArray) (h1 : a.eval x1 = .agg (snCells s1).toArray) (h2 : a.eval x2 = .agg (snCells s2).toArray) (h3 : a.eval x3 = .agg (snCells s3).toArray) (h4 : a.eval x4 = .agg (snCells s4).toArray) (h5 : a.eval x5 = .agg (snCells s5).toArray) (h6 : a.eval x6 = .agg (snCells s6).toArray)
    (h : wpList Tryz.prog ops Q rest (a.put o.dst (.slice (some ⟨w.heap.size, 0, none⟩) 7 7)) (w.alloc (.cells (snsCells [s0, s1, s2, s3, s4, s5, s6]).toArray 47))) : wpList Tryz.prog ops Q (o :: rest) a w :=
  wpList_plain hg fun _ hK => wp_buildS7 x0 x1 x2 x3 x4 x5 x6 ho s0 s1 s2 s3 s4 s5 s6 h0 h1 h2 h3 h4 h5 h6 (hK _ _ h)
theorem wp_buildS6 {K : Act → World → Prop} (x0 x1 x2 x3 x4 x5 : Operand) (ho : o.op = .buildSlice 56 6 #[(0, x0), (1, x1), (2, x2), (3, x3), (4, x4), (5, x5)]) (s0 s1 s2 s3 s4 s5 : Sn)
    (h0 : a.eval x0 = .agg (snCells s0).toArray) (h1 : a.eval x1 = .agg (snCells s1).toArray) (h2 : a.eval x2 = .agg (snCells s2).toArray) (h3 : a.eval x3 = .agg (snCells s3).toArray) (h4 : a.eval x4 = .agg (snCells s4).toArray) (h5 : a.eval x5 = .agg (snCells s5).toArray)
    (h : K (a.put o.dst (.slice (some ⟨w.heap.size, 0, none⟩) 6 6)) (w.alloc (.cells (snsCells [s0, s1, s2, s3, s4, s5]).toArray 47))) : Oper.wp Tryz.prog o a w K Q := by
  obtain ⟨ie, z, hie, hz, hs, hzc⟩ := info_seen0
  refine wp_buildSlice 56 47 6 _ ho (snsCells [s0, s1, s2, s3, s4, s5]).toArray ie z Tryz.underlying56 hie hz (by rw [hs]; decide) (by rw [hs]; decide) ?_ h
  rw [hs, hzc]
  have e : (Array.map (fun x : Nat × Operand => (x.1, a.eval x.2)) #[(0, x0), (1, x1), (2, x2), (3, x3), (4, x4), (5, x5)]).toList = [(0, .agg (snCells s0).toArray), (1, .agg (snCells s1).toArray), (2, .agg (snCells s2).toArray), (3, .agg (snCells s3).toArray), (4, .agg (snCells s4).toArray), (5, .agg (snCells s5).toArray)] := by
    simp [h0, h1, h2, h3, h4, h5]
  refine Eq.trans (congrArg _ e) ?_
  kernel_rfl
theorem wpList_buildS6 (hg : o.guard = none) (x0 x1 x2 x3 x4 x5 : Operand) (ho : o.op = .buildSlice 56 6 #[(0, x0), (1, x1), (2, x2), (3, x3), (4, x4), (5, x5)]) (s0 s1 s2 s3 s4 s5 : Sn)
    (h0 : a.eval x0 = .agg (snCells s0).toArray) (h1 : a.eval x1 = .agg (snCells s1).toArray) (h2 : a.eval x2 = .agg (snCells s2).toArray) (h3 : a.eval x3 = .agg (snCells s3).toArray) (h4 : a.eval x4 = .agg (snCells s4).toArray) (h5 : a.eval x5 = .agg (snCells s5).toArray)
    (h : wpList Tryz.prog ops Q rest (a.put o.dst (.slice (some ⟨w.heap.size, 0, none⟩) 6 6)) (w.alloc (.cells (snsCells [s0, s1, s2, s3, s4, s5]).toArray 47))) : wpList Tryz.prog ops Q (o :: rest) a w :=
  wpList_plain hg fun _ hK => wp_buildS6 x0 x1 x2 x3 x4 x5 ho s0 s1 s2 s3 s4 s5 h0 h1 h2 h3 h4 h5 (hK _ _ h)
end
section
variable {P : Program} {ops : Array Oper}
theorem wpOps_of_wpSeq {Q : Exit → Act → World → Prop} : ∀ (rest : List Oper) (k : Nat) (a : Act) (w : World), ops.toList.drop k = rest → wpSeq P ops Q rest a w → wpOps P ops Q (List.range' k rest.length) a w
  | [], k, a, w, _, h => h
  | o :: rest, k, a, w, hd, h => by
    have hk : ops[k]? = some o := by
      have : (ops.toList.drop k)[0]? = some o := by rw [hd]; rfl
      rw [List.getElem?_drop] at this
      simpa using this
    have hd' : ops.toList.drop (k + 1) = rest := by rw [← List.drop_drop, hd]; rfl
    rw [List.length_cons, List.range'_succ, wpOps_cons]
    refine wpOp_mono (fun a' w' h' => wpOps_of_wpSeq rest (k + 1) a' w' hd' h') ?_
    unfold wpOp
    simp only [hk]
    unfold wpSeq at h
    split
    · rename_i hw; simp only [hw, if_true] at h; exact .inl h
    · rename_i hw; simp only [hw, Bool.false_eq_true, if_false] at h; exact h
theorem wp_region_seq {l : List Oper} {Q : Exit → Act → World → Prop} {id : Nat} {a : Act} {w : World} (h : wpSeq P l.toArray Q l a w) : (Code.region id l.toArray false).wp P Q a w := by
  refine wp_region ?_
  have := wpOps_of_wpSeq (ops := l.toArray) (P := P) (Q := Q) l 0 a w (by simp) h
  rw [← List.range_eq_range'] at this
  simpa using this
theorem seq_val {Q : Exit → Act → World → Prop} {o : Oper} {rest : List Oper} {a : Act} {w w' : World} (v : Value) (hw : Region.wanted o (yielded ops a.tmps) = true) (hv : (execOp a.eval o).run P w = .ok (.value v) w') (h : wpSeq P ops Q rest (a.put o.dst v) w') : wpSeq P ops Q (o :: rest) a w := by
  unfold wpSeq
  rw [if_pos hw]
  unfold Oper.wp
  rw [hv]
  exact h
end
set_option maxRecDepth 100000 in
set_option maxHeartbeats 16000000 in
theorem known28_any (w : World) : Calls Tryz.prog 7 #[] w fun e w' => e = .returned (.bool true) ∧ Below w.heap.size w w' := by
  have HC := Lib.hid (fun ts n kind key val w' => call28_any ts n kind key val w')
  have HWk := Lib.hid (fun w' => works28_any w')
  have HS0 := Lib.hid (fun a n c w' => seen28_any a n c w')
  have HE1 := Lib.hid (show ∀ w', Calls Tryz.prog 24 #[.int .u64 5, .int .u64 1, .string ⟨#[97]⟩, .string ⟨#[120]⟩] w' fun e w'' => ∃ (a : Option Addr) (n c : Nat), e = .returned (.agg #[.int .u64 5, .int .u64 1, .slice a n c]) ∧ EntIs w'' ⟨5, 1, a, n, c⟩ (mkE28 5 1 [97] [120]) ∧ (∀ g o, a = some ⟨g, o, none⟩ → w'.heap.size ≤ g) ∧ Below w'.heap.size w' w'' from fun w' => entry28_any 5 1 [97] [120] (by omega) (by omega) (by decide) (by decide) w')
  have HE2 := Lib.hid (show ∀ w', Calls Tryz.prog 24 #[.int .u64 5, .int .u64 2, .string ⟨#[98]⟩, .string ⟨#[121]⟩] w' fun e w'' => ∃ (a : Option Addr) (n c : Nat), e = .returned (.agg #[.int .u64 5, .int .u64 2, .slice a n c]) ∧ EntIs w'' ⟨5, 2, a, n, c⟩ (mkE28 5 2 [98] [121]) ∧ (∀ g o, a = some ⟨g, o, none⟩ → w'.heap.size ≤ g) ∧ Below w'.heap.size w' w'' from fun w' => entry28_any 5 2 [98] [121] (by omega) (by omega) (by decide) (by decide) w')
  go_enter Tryz.func7, Tryz.ntmps7
  go_upto_region 2 with fail
  have hb : Below w.heap.size w ((w.alloc (.cells #[.int .u64 3, .int .u64 4] 32)).alloc (.cells #[.bool true, .bool true, .bool true, .bool false, .int .u64 1, .int .u64 2, .int .u64 2, .int .u64 2, .int .u64 2, .slice none 0 0, .slice (some ⟨w.heap.size, 0, none⟩) 2 2, .int .i64 400] 47)) := ((Below.refl _ _).alloc (Nat.le_refl _) _).alloc (by simp) _
  have hA : Blk ((w.alloc (.cells #[.int .u64 3, .int .u64 4] 32)).alloc (.cells #[.bool true, .bool true, .bool true, .bool false, .int .u64 1, .int .u64 2, .int .u64 2, .int .u64 2, .int .u64 2, .slice none 0 0, .slice (some ⟨w.heap.size, 0, none⟩) 2 2, .int .i64 400] 47)) w.heap.size (u64s [3, 4]) 32 := (Blk.new w (u64s [3, 4]) 32).alloc _
  have hB : Blk ((w.alloc (.cells #[.int .u64 3, .int .u64 4] 32)).alloc (.cells #[.bool true, .bool true, .bool true, .bool false, .int .u64 1, .int .u64 2, .int .u64 2, .int .u64 2, .int .u64 2, .slice none 0 0, .slice (some ⟨w.heap.size, 0, none⟩) 2 2, .int .i64 400] 47)) (w.heap.size + 1) (snCells (⟨true, true, true, false, 1, 2, 2, 2, 2, none, 0, 0, some ⟨w.heap.size, 0, none⟩, 2, 2, 400⟩ : Sn)) 47 := by
    have := Blk.new (w.alloc (.cells #[.int .u64 3, .int .u64 4] 32)) (snCells (⟨true, true, true, false, 1, 2, 2, 2, 2, none, 0, 0, some ⟨w.heap.size, 0, none⟩, 2, 2, 400⟩ : Sn)) 47
    rw [World.size_alloc] at this
    exact this
  obtain ⟨ab, hab⟩ : ∃ x, w.heap.size = x := ⟨_, rfl⟩
  have hb0 : ∃ x, ab + 1 = x := ⟨_, rfl⟩
  obtain ⟨bb, hbb⟩ := hb0
  rw [hab] at hA hB hb
  try simp only [hab]
  rw [hbb] at hB
  try simp only [hbb]
  generalize ((w.alloc (.cells #[.int .u64 3, .int .u64 4] 32)).alloc (.cells #[.bool true, .bool true, .bool true, .bool false, .int .u64 1, .int .u64 2, .int .u64 2, .int .u64 2, .int .u64 2, .slice none 0 0, .slice (some ⟨ab, 0, none⟩) 2 2, .int .i64 400] 47)) = w1 at *
  rw [← hab] at hb
  have HAb := Lib.hid hA
  have HBb := Lib.hid hB
  have HAbL := Lib.hid hA.lt
  clear hA hB hab hbb
  have hbx := hb
  have NHB := Lib.hid hbx
  clear hbx
  have HB := NHB
  clear NHB
  clear hb
  have HL0 := Lib.hid (show (Instr.loadAt 47 (.pointer (some ⟨bb, 0, none⟩))).run Tryz.prog w1 = .ok (.agg (snCells (⟨true, true, true, false, 1, 2, 2, 2, 2, none, 0, 0, some ⟨ab, 0, none⟩, 2, 2, 400⟩ : Sn)).toArray) w1 from run_loadAt_mid (P := Tryz.prog) w1 bb 0 47 (snCells (⟨true, true, true, false, 1, 2, 2, 2, 2, none, 0, 0, some ⟨ab, 0, none⟩, 2, 2, 400⟩ : Sn)) _ (fun j v hv => by rw [HBb.out.cell, Nat.zero_add]; exact hv) Tryz.underlying47 rfl (info_seen _))
  refine wp_region_seq ?_
  refine seq_val _ (by rfl) (exec_load _ _ rfl _ rfl HL0.out) ?_
  simp only [Act.put, List.setIfInBounds_toArray, List.set_cons_zero, List.set_cons_succ]
  refine seq_val _ (by rfl) (exec_load _ _ rfl _ rfl HL0.out) ?_
  simp only [Act.put, List.setIfInBounds_toArray, List.set_cons_zero, List.set_cons_succ]
  refine seq_val _ (by rfl) (exec_load _ _ rfl _ rfl HL0.out) ?_
  simp only [Act.put, List.setIfInBounds_toArray, List.set_cons_zero, List.set_cons_succ]
  refine seq_val _ (by rfl) (exec_load _ _ rfl _ rfl HL0.out) ?_
  simp only [Act.put, List.setIfInBounds_toArray, List.set_cons_zero, List.set_cons_succ]
  refine seq_val _ (by rfl) (exec_load _ _ rfl _ rfl HL0.out) ?_
  simp only [Act.put, List.setIfInBounds_toArray, List.set_cons_zero, List.set_cons_succ]
  refine seq_val _ (by rfl) (exec_load _ _ rfl _ rfl HL0.out) ?_
  simp only [Act.put, List.setIfInBounds_toArray, List.set_cons_zero, List.set_cons_succ]
  refine seq_val _ (by rfl) (exec_load _ _ rfl _ rfl HL0.out) ?_
  simp only [Act.put, List.setIfInBounds_toArray, List.set_cons_zero, List.set_cons_succ]
  refine seq_step (by rfl) (fun K hK => ?_)
  (with_reducible refine wp_buildS7 _ _ _ _ _ _ _ rfl (⟨true, true, true, false, 1, 2, 2, 2, 2, none, 0, 0, some ⟨ab, 0, none⟩, 2, 2, 400⟩ : Sn) (⟨true, true, true, false, 1, 2, 2, 2, 2, none, 0, 0, some ⟨ab, 0, none⟩, 2, 2, 400⟩ : Sn) (⟨true, true, true, false, 1, 2, 2, 2, 2, none, 0, 0, some ⟨ab, 0, none⟩, 2, 2, 400⟩ : Sn) (⟨true, true, true, false, 1, 2, 2, 2, 2, none, 0, 0, some ⟨ab, 0, none⟩, 2, 2, 400⟩ : Sn) (⟨true, true, true, false, 1, 2, 2, 2, 2, none, 0, 0, some ⟨ab, 0, none⟩, 2, 2, 400⟩ : Sn) (⟨true, true, true, false, 1, 2, 2, 2, 2, none, 0, 0, some ⟨ab, 0, none⟩, 2, 2, 400⟩ : Sn) (⟨true, true, true, false, 1, 2, 2, 2, 2, none, 0, 0, some ⟨ab, 0, none⟩, 2, 2, 400⟩ : Sn) ?_ ?_ ?_ ?_ ?_ ?_ ?_ ?_) <;> try rfl
  refine hK.out _ _ ?_
  clear hK K
  simp only [Act.put, List.setIfInBounds_toArray, List.set_cons_zero, List.set_cons_succ]
  refine seq_step (by rfl) (fun K hK => ?_)
  go_simp
  refine hK.out _ _ ?_
  clear hK K
  refine seq_nil ?_
  clear HL0
  generalize Value.agg (snCells (⟨true, true, true, false, 1, 2, 2, 2, 2, none, 0, 0, some ⟨ab, 0, none⟩, 2, 2, 400⟩ : Sn)).toArray = gS at *
  try generalize Value.agg #[.bool true, .bool true, .bool true, .bool false, .int .u64 1, .int .u64 2, .int .u64 2, .int .u64 2, .int .u64 2, .slice none 0 0, .slice (some ⟨ab, 0, none⟩) 2 2, .int .i64 400] = gT at *
  have HP := Lib.hid (Below.refl w1.heap.size w1)
  have hX : Blk (w1.alloc (.cells (snsCells [(⟨true, true, true, false, 1, 2, 2, 2, 2, none, 0, 0, some ⟨ab, 0, none⟩, 2, 2, 400⟩ : Sn), (⟨true, true, true, false, 1, 2, 2, 2, 2, none, 0, 0, some ⟨ab, 0, none⟩, 2, 2, 400⟩ : Sn), (⟨true, true, true, false, 1, 2, 2, 2, 2, none, 0, 0, some ⟨ab, 0, none⟩, 2, 2, 400⟩ : Sn), (⟨true, true, true, false, 1, 2, 2, 2, 2, none, 0, 0, some ⟨ab, 0, none⟩, 2, 2, 400⟩ : Sn), (⟨true, true, true, false, 1, 2, 2, 2, 2, none, 0, 0, some ⟨ab, 0, none⟩, 2, 2, 400⟩ : Sn), (⟨true, true, true, false, 1, 2, 2, 2, 2, none, 0, 0, some ⟨ab, 0, none⟩, 2, 2, 400⟩ : Sn), (⟨true, true, true, false, 1, 2, 2, 2, 2, none, 0, 0, some ⟨ab, 0, none⟩, 2, 2, 400⟩ : Sn)]).toArray 47)) w1.heap.size (snsCells [(⟨true, true, true, false, 1, 2, 2, 2, 2, none, 0, 0, some ⟨ab, 0, none⟩, 2, 2, 400⟩ : Sn), (⟨true, true, true, false, 1, 2, 2, 2, 2, none, 0, 0, some ⟨ab, 0, none⟩, 2, 2, 400⟩ : Sn), (⟨true, true, true, false, 1, 2, 2, 2, 2, none, 0, 0, some ⟨ab, 0, none⟩, 2, 2, 400⟩ : Sn), (⟨true, true, true, false, 1, 2, 2, 2, 2, none, 0, 0, some ⟨ab, 0, none⟩, 2, 2, 400⟩ : Sn), (⟨true, true, true, false, 1, 2, 2, 2, 2, none, 0, 0, some ⟨ab, 0, none⟩, 2, 2, 400⟩ : Sn), (⟨true, true, true, false, 1, 2, 2, 2, 2, none, 0, 0, some ⟨ab, 0, none⟩, 2, 2, 400⟩ : Sn), (⟨true, true, true, false, 1, 2, 2, 2, 2, none, 0, 0, some ⟨ab, 0, none⟩, 2, 2, 400⟩ : Sn)]) 47 := Blk.new w1 (snsCells [(⟨true, true, true, false, 1, 2, 2, 2, 2, none, 0, 0, some ⟨ab, 0, none⟩, 2, 2, 400⟩ : Sn), (⟨true, true, true, false, 1, 2, 2, 2, 2, none, 0, 0, some ⟨ab, 0, none⟩, 2, 2, 400⟩ : Sn), (⟨true, true, true, false, 1, 2, 2, 2, 2, none, 0, 0, some ⟨ab, 0, none⟩, 2, 2, 400⟩ : Sn), (⟨true, true, true, false, 1, 2, 2, 2, 2, none, 0, 0, some ⟨ab, 0, none⟩, 2, 2, 400⟩ : Sn), (⟨true, true, true, false, 1, 2, 2, 2, 2, none, 0, 0, some ⟨ab, 0, none⟩, 2, 2, 400⟩ : Sn), (⟨true, true, true, false, 1, 2, 2, 2, 2, none, 0, 0, some ⟨ab, 0, none⟩, 2, 2, 400⟩ : Sn), (⟨true, true, true, false, 1, 2, 2, 2, 2, none, 0, 0, some ⟨ab, 0, none⟩, 2, 2, 400⟩ : Sn)]) 47
  have hbX := HP.out.alloc HP.out.size (.cells (snsCells [(⟨true, true, true, false, 1, 2, 2, 2, 2, none, 0, 0, some ⟨ab, 0, none⟩, 2, 2, 400⟩ : Sn), (⟨true, true, true, false, 1, 2, 2, 2, 2, none, 0, 0, some ⟨ab, 0, none⟩, 2, 2, 400⟩ : Sn), (⟨true, true, true, false, 1, 2, 2, 2, 2, none, 0, 0, some ⟨ab, 0, none⟩, 2, 2, 400⟩ : Sn), (⟨true, true, true, false, 1, 2, 2, 2, 2, none, 0, 0, some ⟨ab, 0, none⟩, 2, 2, 400⟩ : Sn), (⟨true, true, true, false, 1, 2, 2, 2, 2, none, 0, 0, some ⟨ab, 0, none⟩, 2, 2, 400⟩ : Sn), (⟨true, true, true, false, 1, 2, 2, 2, 2, none, 0, 0, some ⟨ab, 0, none⟩, 2, 2, 400⟩ : Sn), (⟨true, true, true, false, 1, 2, 2, 2, 2, none, 0, 0, some ⟨ab, 0, none⟩, 2, 2, 400⟩ : Sn)]).toArray 47)
  obtain ⟨wb, hwb⟩ : ∃ x, w1.heap.size = x := ⟨_, rfl⟩
  have Hwbs := Lib.hid (show w1.heap.size ≤ wb by rw [← hwb]; exact HP.out.size)
  rw [hwb] at hX
  try simp only [hwb]
  generalize w1.alloc (.cells (snsCells [(⟨true, true, true, false, 1, 2, 2, 2, 2, none, 0, 0, some ⟨ab, 0, none⟩, 2, 2, 400⟩ : Sn), (⟨true, true, true, false, 1, 2, 2, 2, 2, none, 0, 0, some ⟨ab, 0, none⟩, 2, 2, 400⟩ : Sn), (⟨true, true, true, false, 1, 2, 2, 2, 2, none, 0, 0, some ⟨ab, 0, none⟩, 2, 2, 400⟩ : Sn), (⟨true, true, true, false, 1, 2, 2, 2, 2, none, 0, 0, some ⟨ab, 0, none⟩, 2, 2, 400⟩ : Sn), (⟨true, true, true, false, 1, 2, 2, 2, 2, none, 0, 0, some ⟨ab, 0, none⟩, 2, 2, 400⟩ : Sn), (⟨true, true, true, false, 1, 2, 2, 2, 2, none, 0, 0, some ⟨ab, 0, none⟩, 2, 2, 400⟩ : Sn), (⟨true, true, true, false, 1, 2, 2, 2, 2, none, 0, 0, some ⟨ab, 0, none⟩, 2, 2, 400⟩ : Sn)]).toArray 47) = w2 at *
  have HW := Lib.hid hX
  clear HP
  have HP := Lib.hid hbX
  clear hX hbX hwb
  have f0 := HW.out.free 4
  have g0 : w2.cell? ⟨wb, 4, none⟩ = some (.int .u64 1) := by rw [HW.out.cell]; rfl
  have hX0 := HW.out.set 4 (.int .u64 3)
  have hX : Blk (w2.setCell ⟨wb, 4, none⟩ (.int .u64 3)) wb (snsCells [(⟨true, true, true, false, 3, 2, 2, 2, 2, none, 0, 0, some ⟨ab, 0, none⟩, 2, 2, 400⟩ : Sn), (⟨true, true, true, false, 1, 2, 2, 2, 2, none, 0, 0, some ⟨ab, 0, none⟩, 2, 2, 400⟩ : Sn), (⟨true, true, true, false, 1, 2, 2, 2, 2, none, 0, 0, some ⟨ab, 0, none⟩, 2, 2, 400⟩ : Sn), (⟨true, true, true, false, 1, 2, 2, 2, 2, none, 0, 0, some ⟨ab, 0, none⟩, 2, 2, 400⟩ : Sn), (⟨true, true, true, false, 1, 2, 2, 2, 2, none, 0, 0, some ⟨ab, 0, none⟩, 2, 2, 400⟩ : Sn), (⟨true, true, true, false, 1, 2, 2, 2, 2, none, 0, 0, some ⟨ab, 0, none⟩, 2, 2, 400⟩ : Sn), (⟨true, true, true, false, 1, 2, 2, 2, 2, none, 0, 0, some ⟨ab, 0, none⟩, 2, 2, 400⟩ : Sn)]) 47 := hX0
  have hm : Mod [wb] w2 (w2.setCell ⟨wb, 4, none⟩ (.int .u64 3)) := (Mod.refl _ _).setCell _ _ (.inl (by simp))
  have hbX := HP.out.trans (hm.below (fun x hx => by simp only [List.mem_singleton] at hx; have := Hwbs.out; omega) HP.out.size)
  clear HW HP hX0 hm
  have HW := Lib.hid hX
  have HP := Lib.hid hbX
  clear hX hbX
  go_upto_region 4 with fail
  clear f0 g0
  generalize (w2.setCell ⟨wb, 4, none⟩ (.int .u64 3)) = w3 at *
  have f0 := HW.out.free 18
  have g0 : w3.cell? ⟨wb, 18, none⟩ = some (.int .u64 2) := by rw [HW.out.cell]; rfl
  have hX0 := HW.out.set 18 (.int .u64 1)
  have hX : Blk (w3.setCell ⟨wb, 18, none⟩ (.int .u64 1)) wb (snsCells [(⟨true, true, true, false, 3, 2, 2, 2, 2, none, 0, 0, some ⟨ab, 0, none⟩, 2, 2, 400⟩ : Sn), (⟨true, true, true, false, 1, 2, 1, 2, 2, none, 0, 0, some ⟨ab, 0, none⟩, 2, 2, 400⟩ : Sn), (⟨true, true, true, false, 1, 2, 2, 2, 2, none, 0, 0, some ⟨ab, 0, none⟩, 2, 2, 400⟩ : Sn), (⟨true, true, true, false, 1, 2, 2, 2, 2, none, 0, 0, some ⟨ab, 0, none⟩, 2, 2, 400⟩ : Sn), (⟨true, true, true, false, 1, 2, 2, 2, 2, none, 0, 0, some ⟨ab, 0, none⟩, 2, 2, 400⟩ : Sn), (⟨true, true, true, false, 1, 2, 2, 2, 2, none, 0, 0, some ⟨ab, 0, none⟩, 2, 2, 400⟩ : Sn), (⟨true, true, true, false, 1, 2, 2, 2, 2, none, 0, 0, some ⟨ab, 0, none⟩, 2, 2, 400⟩ : Sn)]) 47 := hX0
  have hm : Mod [wb] w3 (w3.setCell ⟨wb, 18, none⟩ (.int .u64 1)) := (Mod.refl _ _).setCell _ _ (.inl (by simp))
  have hbX := HP.out.trans (hm.below (fun x hx => by simp only [List.mem_singleton] at hx; have := Hwbs.out; omega) HP.out.size)
  clear HW HP hX0 hm
  have HW := Lib.hid hX
  have HP := Lib.hid hbX
  clear hX hbX
  go_upto_region 5 with fail
  clear f0 g0
  generalize (w3.setCell ⟨wb, 18, none⟩ (.int .u64 1)) = w4 at *
  have f0 := HW.out.free 32
  have g0 : w4.cell? ⟨wb, 32, none⟩ = some (.int .u64 2) := by rw [HW.out.cell]; rfl
  have hX0 := HW.out.set 32 (.int .u64 3)
  have hX : Blk (w4.setCell ⟨wb, 32, none⟩ (.int .u64 3)) wb (snsCells [(⟨true, true, true, false, 3, 2, 2, 2, 2, none, 0, 0, some ⟨ab, 0, none⟩, 2, 2, 400⟩ : Sn), (⟨true, true, true, false, 1, 2, 1, 2, 2, none, 0, 0, some ⟨ab, 0, none⟩, 2, 2, 400⟩ : Sn), (⟨true, true, true, false, 1, 2, 2, 2, 3, none, 0, 0, some ⟨ab, 0, none⟩, 2, 2, 400⟩ : Sn), (⟨true, true, true, false, 1, 2, 2, 2, 2, none, 0, 0, some ⟨ab, 0, none⟩, 2, 2, 400⟩ : Sn), (⟨true, true, true, false, 1, 2, 2, 2, 2, none, 0, 0, some ⟨ab, 0, none⟩, 2, 2, 400⟩ : Sn), (⟨true, true, true, false, 1, 2, 2, 2, 2, none, 0, 0, some ⟨ab, 0, none⟩, 2, 2, 400⟩ : Sn), (⟨true, true, true, false, 1, 2, 2, 2, 2, none, 0, 0, some ⟨ab, 0, none⟩, 2, 2, 400⟩ : Sn)]) 47 := hX0
  have hm : Mod [wb] w4 (w4.setCell ⟨wb, 32, none⟩ (.int .u64 3)) := (Mod.refl _ _).setCell _ _ (.inl (by simp))
  have hbX := HP.out.trans (hm.below (fun x hx => by simp only [List.mem_singleton] at hx; have := Hwbs.out; omega) HP.out.size)
  clear HW HP hX0 hm
  have HW := Lib.hid hX
  have HP := Lib.hid hbX
  clear hX hbX
  go_upto_region 6 with fail
  clear f0 g0
  generalize (w4.setCell ⟨wb, 32, none⟩ (.int .u64 3)) = w5 at *
  have f0 := HW.out.free 41
  have g0 : w5.cell? ⟨wb, 41, none⟩ = some (.int .u64 2) := by rw [HW.out.cell]; rfl
  have hX0 := HW.out.set 41 (.int .u64 1)
  have hX : Blk (w5.setCell ⟨wb, 41, none⟩ (.int .u64 1)) wb (snsCells [(⟨true, true, true, false, 3, 2, 2, 2, 2, none, 0, 0, some ⟨ab, 0, none⟩, 2, 2, 400⟩ : Sn), (⟨true, true, true, false, 1, 2, 1, 2, 2, none, 0, 0, some ⟨ab, 0, none⟩, 2, 2, 400⟩ : Sn), (⟨true, true, true, false, 1, 2, 2, 2, 3, none, 0, 0, some ⟨ab, 0, none⟩, 2, 2, 400⟩ : Sn), (⟨true, true, true, false, 1, 1, 2, 2, 2, none, 0, 0, some ⟨ab, 0, none⟩, 2, 2, 400⟩ : Sn), (⟨true, true, true, false, 1, 2, 2, 2, 2, none, 0, 0, some ⟨ab, 0, none⟩, 2, 2, 400⟩ : Sn), (⟨true, true, true, false, 1, 2, 2, 2, 2, none, 0, 0, some ⟨ab, 0, none⟩, 2, 2, 400⟩ : Sn), (⟨true, true, true, false, 1, 2, 2, 2, 2, none, 0, 0, some ⟨ab, 0, none⟩, 2, 2, 400⟩ : Sn)]) 47 := hX0
  have hm : Mod [wb] w5 (w5.setCell ⟨wb, 41, none⟩ (.int .u64 1)) := (Mod.refl _ _).setCell _ _ (.inl (by simp))
  have hbX := HP.out.trans (hm.below (fun x hx => by simp only [List.mem_singleton] at hx; have := Hwbs.out; omega) HP.out.size)
  clear HW HP hX0 hm
  have HW := Lib.hid hX
  have HP := Lib.hid hbX
  clear hX hbX
  go_upto_region 7 with fail
  clear f0 g0
  generalize (w5.setCell ⟨wb, 41, none⟩ (.int .u64 1)) = w6 at *
  have f0 := HW.out.free 40
  have g0 : w6.cell? ⟨wb, 40, none⟩ = some (.int .u64 1) := by rw [HW.out.cell]; rfl
  have hX0 := HW.out.set 40 (.int .u64 0)
  have hX : Blk (w6.setCell ⟨wb, 40, none⟩ (.int .u64 0)) wb (snsCells [(⟨true, true, true, false, 3, 2, 2, 2, 2, none, 0, 0, some ⟨ab, 0, none⟩, 2, 2, 400⟩ : Sn), (⟨true, true, true, false, 1, 2, 1, 2, 2, none, 0, 0, some ⟨ab, 0, none⟩, 2, 2, 400⟩ : Sn), (⟨true, true, true, false, 1, 2, 2, 2, 3, none, 0, 0, some ⟨ab, 0, none⟩, 2, 2, 400⟩ : Sn), (⟨true, true, true, false, 0, 1, 2, 2, 2, none, 0, 0, some ⟨ab, 0, none⟩, 2, 2, 400⟩ : Sn), (⟨true, true, true, false, 1, 2, 2, 2, 2, none, 0, 0, some ⟨ab, 0, none⟩, 2, 2, 400⟩ : Sn), (⟨true, true, true, false, 1, 2, 2, 2, 2, none, 0, 0, some ⟨ab, 0, none⟩, 2, 2, 400⟩ : Sn), (⟨true, true, true, false, 1, 2, 2, 2, 2, none, 0, 0, some ⟨ab, 0, none⟩, 2, 2, 400⟩ : Sn)]) 47 := hX0
  have hm : Mod [wb] w6 (w6.setCell ⟨wb, 40, none⟩ (.int .u64 0)) := (Mod.refl _ _).setCell _ _ (.inl (by simp))
  have hbX := HP.out.trans (hm.below (fun x hx => by simp only [List.mem_singleton] at hx; have := Hwbs.out; omega) HP.out.size)
  clear HW HP hX0 hm
  have HW := Lib.hid hX
  have HP := Lib.hid hbX
  clear hX hbX
  go_upto_region 8 with fail
  clear f0 g0
  generalize (w6.setCell ⟨wb, 40, none⟩ (.int .u64 0)) = w7 at *
  have hbA := (Below.refl w7.heap.size w7).alloc (Nat.le_refl _) (.cells #[.int .u64 3, .int .u64 3] 32)
  have hNew : Blk (w7.alloc (.cells #[.int .u64 3, .int .u64 3] 32)) w7.heap.size (u64s [3, 3]) 32 := Blk.new w7 (u64s [3, 3]) 32
  have hW0 := HW.out.on hbA
  have f0 := hW0.free 58
  have g0 : (w7.alloc (.cells #[.int .u64 3, .int .u64 3] 32)).cell? ⟨wb, 58, none⟩ = some (.slice (some ⟨ab, 0, none⟩) 2 2) := by rw [hW0.cell]; rfl
  have hX : Blk ((w7.alloc (.cells #[.int .u64 3, .int .u64 3] 32)).setCell ⟨wb, 58, none⟩ (.slice (some ⟨w7.heap.size, 0, none⟩) 2 2)) wb (snsCells [(⟨true, true, true, false, 3, 2, 2, 2, 2, none, 0, 0, some ⟨ab, 0, none⟩, 2, 2, 400⟩ : Sn), (⟨true, true, true, false, 1, 2, 1, 2, 2, none, 0, 0, some ⟨ab, 0, none⟩, 2, 2, 400⟩ : Sn), (⟨true, true, true, false, 1, 2, 2, 2, 3, none, 0, 0, some ⟨ab, 0, none⟩, 2, 2, 400⟩ : Sn), (⟨true, true, true, false, 0, 1, 2, 2, 2, none, 0, 0, some ⟨ab, 0, none⟩, 2, 2, 400⟩ : Sn), (⟨true, true, true, false, 1, 2, 2, 2, 2, none, 0, 0, some ⟨w7.heap.size, 0, none⟩, 2, 2, 400⟩ : Sn), (⟨true, true, true, false, 1, 2, 2, 2, 2, none, 0, 0, some ⟨ab, 0, none⟩, 2, 2, 400⟩ : Sn), (⟨true, true, true, false, 1, 2, 2, 2, 2, none, 0, 0, some ⟨ab, 0, none⟩, 2, 2, 400⟩ : Sn)]) 47 := hW0.set 58 (.slice (some ⟨w7.heap.size, 0, none⟩) 2 2)
  have hm : Mod [wb] (w7.alloc (.cells #[.int .u64 3, .int .u64 3] 32)) ((w7.alloc (.cells #[.int .u64 3, .int .u64 3] 32)).setCell ⟨wb, 58, none⟩ (.slice (some ⟨w7.heap.size, 0, none⟩) 2 2)) := (Mod.refl _ _).setCell _ _ (.inl (by simp))
  have hN2 := hNew.mod hm (by have := HW.out.lt; simp only [List.mem_singleton]; omega)
  have hbX := (HP.out.trans (hbA.mono HP.out.size)).trans (hm.below (fun x hx => by simp only [List.mem_singleton] at hx; have := Hwbs.out; omega) (HP.out.trans (hbA.mono HP.out.size)).size)
  have H5ne := Lib.hid (show w7.heap.size ≠ wb from by have := HW.out.lt; omega)
  clear HW HP hW0 hm hNew hbA
  go_upto_region 9 with fail
  clear f0 g0
  obtain ⟨a5, ha5⟩ : ∃ x, w7.heap.size = x := ⟨_, rfl⟩
  rw [ha5] at hX hN2 hbX H5ne 
  try simp only [ha5]
  generalize ((w7.alloc (.cells #[.int .u64 3, .int .u64 3] 32)).setCell ⟨wb, 58, none⟩ (.slice (some ⟨a5, 0, none⟩) 2 2)) = w8 at *
  have HW := Lib.hid (show Blk w8 wb (snsCells [(⟨true, true, true, false, 3, 2, 2, 2, 2, none, 0, 0, some ⟨ab, 0, none⟩, 2, 2, 400⟩ : Sn), (⟨true, true, true, false, 1, 2, 1, 2, 2, none, 0, 0, some ⟨ab, 0, none⟩, 2, 2, 400⟩ : Sn), (⟨true, true, true, false, 1, 2, 2, 2, 3, none, 0, 0, some ⟨ab, 0, none⟩, 2, 2, 400⟩ : Sn), (⟨true, true, true, false, 0, 1, 2, 2, 2, none, 0, 0, some ⟨ab, 0, none⟩, 2, 2, 400⟩ : Sn), (⟨true, true, true, false, 1, 2, 2, 2, 2, none, 0, 0, some ⟨a5, 0, none⟩, 2, 2, 400⟩ : Sn), (⟨true, true, true, false, 1, 2, 2, 2, 2, none, 0, 0, some ⟨ab, 0, none⟩, 2, 2, 400⟩ : Sn), (⟨true, true, true, false, 1, 2, 2, 2, 2, none, 0, 0, some ⟨ab, 0, none⟩, 2, 2, 400⟩ : Sn)]) 47 from hX)
  have H5 := Lib.hid hN2
  have HP := Lib.hid hbX
  clear hX hN2 hbX ha5
  have f0 := HW.out.free 71
  have g0 : w8.cell? ⟨wb, 71, none⟩ = some (.int .i64 400) := by rw [HW.out.cell]; rfl
  have hX0 := HW.out.set 71 (.int .i64 401)
  have hX : Blk (w8.setCell ⟨wb, 71, none⟩ (.int .i64 401)) wb (snsCells [(⟨true, true, true, false, 3, 2, 2, 2, 2, none, 0, 0, some ⟨ab, 0, none⟩, 2, 2, 400⟩ : Sn), (⟨true, true, true, false, 1, 2, 1, 2, 2, none, 0, 0, some ⟨ab, 0, none⟩, 2, 2, 400⟩ : Sn), (⟨true, true, true, false, 1, 2, 2, 2, 3, none, 0, 0, some ⟨ab, 0, none⟩, 2, 2, 400⟩ : Sn), (⟨true, true, true, false, 0, 1, 2, 2, 2, none, 0, 0, some ⟨ab, 0, none⟩, 2, 2, 400⟩ : Sn), (⟨true, true, true, false, 1, 2, 2, 2, 2, none, 0, 0, some ⟨a5, 0, none⟩, 2, 2, 400⟩ : Sn), (⟨true, true, true, false, 1, 2, 2, 2, 2, none, 0, 0, some ⟨ab, 0, none⟩, 2, 2, 401⟩ : Sn), (⟨true, true, true, false, 1, 2, 2, 2, 2, none, 0, 0, some ⟨ab, 0, none⟩, 2, 2, 400⟩ : Sn)]) 47 := hX0
  have hm : Mod [wb] w8 (w8.setCell ⟨wb, 71, none⟩ (.int .i64 401)) := (Mod.refl _ _).setCell _ _ (.inl (by simp))
  have hbX := HP.out.trans (hm.below (fun x hx => by simp only [List.mem_singleton] at hx; have := Hwbs.out; omega) HP.out.size)
  have NH5 := Lib.hid (H5.out.mod hm (by have := H5ne.out; simp only [List.mem_singleton]; omega))
  clear HW HP hX0 hm H5
  have H5 := NH5
  clear NH5
  have HW := Lib.hid hX
  have HP := Lib.hid hbX
  clear hX hbX
  go_upto_region 10 with fail
  clear f0 g0
  generalize (w8.setCell ⟨wb, 71, none⟩ (.int .i64 401)) = w9 at *
  have hbA := (Below.refl w9.heap.size w9).alloc (Nat.le_refl _) (.cells #[.int .u64 1, .int .u64 2, .int .u64 3, .int .u64 4, .int .u64 5, .int .u64 6, .int .u64 7] 32)
  have hNew : Blk (w9.alloc (.cells #[.int .u64 1, .int .u64 2, .int .u64 3, .int .u64 4, .int .u64 5, .int .u64 6, .int .u64 7] 32)) w9.heap.size (u64s [1, 2, 3, 4, 5, 6, 7]) 32 := Blk.new w9 (u64s [1, 2, 3, 4, 5, 6, 7]) 32
  have hW0 := HW.out.on hbA
  have f0 := hW0.free 82
  have g0 : (w9.alloc (.cells #[.int .u64 1, .int .u64 2, .int .u64 3, .int .u64 4, .int .u64 5, .int .u64 6, .int .u64 7] 32)).cell? ⟨wb, 82, none⟩ = some (.slice (some ⟨ab, 0, none⟩) 2 2) := by rw [hW0.cell]; rfl
  have hX : Blk ((w9.alloc (.cells #[.int .u64 1, .int .u64 2, .int .u64 3, .int .u64 4, .int .u64 5, .int .u64 6, .int .u64 7] 32)).setCell ⟨wb, 82, none⟩ (.slice (some ⟨w9.heap.size, 0, none⟩) 7 7)) wb (snsCells [(⟨true, true, true, false, 3, 2, 2, 2, 2, none, 0, 0, some ⟨ab, 0, none⟩, 2, 2, 400⟩ : Sn), (⟨true, true, true, false, 1, 2, 1, 2, 2, none, 0, 0, some ⟨ab, 0, none⟩, 2, 2, 400⟩ : Sn), (⟨true, true, true, false, 1, 2, 2, 2, 3, none, 0, 0, some ⟨ab, 0, none⟩, 2, 2, 400⟩ : Sn), (⟨true, true, true, false, 0, 1, 2, 2, 2, none, 0, 0, some ⟨ab, 0, none⟩, 2, 2, 400⟩ : Sn), (⟨true, true, true, false, 1, 2, 2, 2, 2, none, 0, 0, some ⟨a5, 0, none⟩, 2, 2, 400⟩ : Sn), (⟨true, true, true, false, 1, 2, 2, 2, 2, none, 0, 0, some ⟨ab, 0, none⟩, 2, 2, 401⟩ : Sn), (⟨true, true, true, false, 1, 2, 2, 2, 2, none, 0, 0, some ⟨w9.heap.size, 0, none⟩, 7, 7, 400⟩ : Sn)]) 47 := hW0.set 82 (.slice (some ⟨w9.heap.size, 0, none⟩) 7 7)
  have hm : Mod [wb] (w9.alloc (.cells #[.int .u64 1, .int .u64 2, .int .u64 3, .int .u64 4, .int .u64 5, .int .u64 6, .int .u64 7] 32)) ((w9.alloc (.cells #[.int .u64 1, .int .u64 2, .int .u64 3, .int .u64 4, .int .u64 5, .int .u64 6, .int .u64 7] 32)).setCell ⟨wb, 82, none⟩ (.slice (some ⟨w9.heap.size, 0, none⟩) 7 7)) := (Mod.refl _ _).setCell _ _ (.inl (by simp))
  have hN2 := hNew.mod hm (by have := HW.out.lt; simp only [List.mem_singleton]; omega)
  have hbX := (HP.out.trans (hbA.mono HP.out.size)).trans (hm.below (fun x hx => by simp only [List.mem_singleton] at hx; have := Hwbs.out; omega) (HP.out.trans (hbA.mono HP.out.size)).size)
  have NH5 := Lib.hid ((H5.out.on hbA).mod hm (by have := H5ne.out; simp only [List.mem_singleton]; omega))
  have H7ne := Lib.hid (show w9.heap.size ≠ wb from by have := HW.out.lt; omega)
  clear HW HP hW0 hm hNew hbA H5
  have H5 := NH5
  clear NH5
  go_upto_region 11 with fail
  clear f0 g0
  obtain ⟨a7, ha7⟩ : ∃ x, w9.heap.size = x := ⟨_, rfl⟩
  rw [ha7] at hX hN2 hbX H7ne H5
  try simp only [ha7]
  generalize ((w9.alloc (.cells #[.int .u64 1, .int .u64 2, .int .u64 3, .int .u64 4, .int .u64 5, .int .u64 6, .int .u64 7] 32)).setCell ⟨wb, 82, none⟩ (.slice (some ⟨a7, 0, none⟩) 7 7)) = w10 at *
  have HW := Lib.hid (show Blk w10 wb (snsCells [(⟨true, true, true, false, 3, 2, 2, 2, 2, none, 0, 0, some ⟨ab, 0, none⟩, 2, 2, 400⟩ : Sn), (⟨true, true, true, false, 1, 2, 1, 2, 2, none, 0, 0, some ⟨ab, 0, none⟩, 2, 2, 400⟩ : Sn), (⟨true, true, true, false, 1, 2, 2, 2, 3, none, 0, 0, some ⟨ab, 0, none⟩, 2, 2, 400⟩ : Sn), (⟨true, true, true, false, 0, 1, 2, 2, 2, none, 0, 0, some ⟨ab, 0, none⟩, 2, 2, 400⟩ : Sn), (⟨true, true, true, false, 1, 2, 2, 2, 2, none, 0, 0, some ⟨a5, 0, none⟩, 2, 2, 400⟩ : Sn), (⟨true, true, true, false, 1, 2, 2, 2, 2, none, 0, 0, some ⟨ab, 0, none⟩, 2, 2, 401⟩ : Sn), (⟨true, true, true, false, 1, 2, 2, 2, 2, none, 0, 0, some ⟨a7, 0, none⟩, 7, 7, 400⟩ : Sn)]) 47 from hX)
  have H7 := Lib.hid hN2
  have HP := Lib.hid hbX
  clear hX hN2 hbX ha7
  have hbx := HP.out
  have NHAb := Lib.hid (HAb.out.on hbx)
  have NHBb := Lib.hid (HBb.out.on hbx)
  have NHB := Lib.hid (HB.out.trans (hbx.mono HB.out.size))
  clear hbx HB HAb HBb
  have HAb := NHAb
  have HBb := NHBb
  have HB := NHB
  clear NHB NHAb NHBb
  clear HP
  clear HAbL H5ne H7ne Hwbs
  have HAll := Lib.hid (show ∀ s ∈ ([(⟨true, true, true, false, 3, 2, 2, 2, 2, none, 0, 0, some ⟨ab, 0, none⟩, 2, 2, 400⟩ : Sn), (⟨true, true, true, false, 1, 2, 1, 2, 2, none, 0, 0, some ⟨ab, 0, none⟩, 2, 2, 400⟩ : Sn), (⟨true, true, true, false, 1, 2, 2, 2, 3, none, 0, 0, some ⟨ab, 0, none⟩, 2, 2, 400⟩ : Sn), (⟨true, true, true, false, 0, 1, 2, 2, 2, none, 0, 0, some ⟨ab, 0, none⟩, 2, 2, 400⟩ : Sn), (⟨true, true, true, false, 1, 2, 2, 2, 2, none, 0, 0, some ⟨a5, 0, none⟩, 2, 2, 400⟩ : Sn), (⟨true, true, true, false, 1, 2, 2, 2, 2, none, 0, 0, some ⟨ab, 0, none⟩, 2, 2, 401⟩ : Sn), (⟨true, true, true, false, 1, 2, 2, 2, 2, none, 0, 0, some ⟨a7, 0, none⟩, 7, 7, 400⟩ : Sn)] : List Sn), ∀ w', Below w10.heap.size w10 w' → Calls Tryz.prog 19 #[.agg (snCells s).toArray] w' fun e w'' => e = .returned (.bool false) ∧ Below w'.heap.size w' w'' from fun s hs w' hb => by
    simp only [List.mem_cons, List.not_mem_nil, or_false] at hs
    rcases hs with rfl | rfl | rfl | rfl | rfl | rfl | rfl
    · exact boundsK w' _ [3, 4] (numsAt_of (HAb.out.on hb) 2 rfl (by omega)) rfl false (by kernel_rfl)
    · exact boundsK w' _ [3, 4] (numsAt_of (HAb.out.on hb) 2 rfl (by omega)) rfl false (by kernel_rfl)
    · exact boundsK w' _ [3, 4] (numsAt_of (HAb.out.on hb) 2 rfl (by omega)) rfl false (by kernel_rfl)
    · exact boundsK w' _ [3, 4] (numsAt_of (HAb.out.on hb) 2 rfl (by omega)) rfl false (by kernel_rfl)
    · exact boundsK w' _ [3, 3] (numsAt_of (H5.out.on hb) 2 rfl (by omega)) rfl false (by kernel_rfl)
    · exact boundsK w' _ [3, 4] (numsAt_of (HAb.out.on hb) 2 rfl (by omega)) rfl false (by kernel_rfl)
    · exact boundsK w' _ [1, 2, 3, 4, 5, 6, 7] (numsAt_of (H7.out.on hb) 7 rfl (by omega)) rfl false (by kernel_rfl))
  go_wp2_with fail
  go_loopw [0, 3] (fun _ s3 wr => ∃ i : Nat, i ≤ 7 ∧ s3 = .int .i64 i ∧ Below w10.heap.size w10 wr) (fun _ s3 _ => 7 - (intOf s3).toNat)
  case atStart => exact ⟨0, by omega, rfl, Below.refl _ _⟩
  case round =>
    obtain ⟨i, hi, rfl, hbi⟩ := hrel
    by_cases hlt : i < 7
    · have hil : (i : Int) < 7 := by omega
      obtain ⟨s, hs⟩ : ∃ s, ([(⟨true, true, true, false, 3, 2, 2, 2, 2, none, 0, 0, some ⟨ab, 0, none⟩, 2, 2, 400⟩ : Sn), (⟨true, true, true, false, 1, 2, 1, 2, 2, none, 0, 0, some ⟨ab, 0, none⟩, 2, 2, 400⟩ : Sn), (⟨true, true, true, false, 1, 2, 2, 2, 3, none, 0, 0, some ⟨ab, 0, none⟩, 2, 2, 400⟩ : Sn), (⟨true, true, true, false, 0, 1, 2, 2, 2, none, 0, 0, some ⟨ab, 0, none⟩, 2, 2, 400⟩ : Sn), (⟨true, true, true, false, 1, 2, 2, 2, 2, none, 0, 0, some ⟨a5, 0, none⟩, 2, 2, 400⟩ : Sn), (⟨true, true, true, false, 1, 2, 2, 2, 2, none, 0, 0, some ⟨ab, 0, none⟩, 2, 2, 401⟩ : Sn), (⟨true, true, true, false, 1, 2, 2, 2, 2, none, 0, 0, some ⟨a7, 0, none⟩, 7, 7, 400⟩ : Sn)] : List Sn)[i]? = some s := ⟨_, List.getElem?_eq_getElem (by simpa using hlt)⟩
      have HR := Lib.hid (sns_range (HW.out.on hbi) hs)
      have HK := Lib.hid (HAll.out s (List.mem_of_getElem? hs) _ hbi)
      have HBi := Lib.hid hbi
      clear hs hbi
      go_wp2_with ((with_reducible refine wpList_loadS rfl _ rfl wb (i * 12) s HR.out ?_ ?_); rfl)
      refine HK.out.mono ?_
      rintro e wq ⟨rfl, hbq⟩
      have HBq := Lib.hid (HBi.out.trans (hbq.mono HBi.out.size))
      clear hbq HR HK
      go_wp2_with fail
      go_roundw
      case rel => exact ⟨i + 1, by omega, by go_num, HBq.out⟩
      case measure => simp [intOf]; omega
    · have hil : ¬ (i : Int) < 7 := by omega
      clear HAll
      go_upto_region 16 with fail
      generalize wr = w11 at *
      have hbx := hbi
      have NHAb := Lib.hid (HAb.out.on hbx)
      have NHBb := Lib.hid (HBb.out.on hbx)
      have NHW := Lib.hid (HW.out.on hbx)
      have NH5 := Lib.hid (H5.out.on hbx)
      have NH7 := Lib.hid (H7.out.on hbx)
      have NHB := Lib.hid (HB.out.trans (hbx.mono HB.out.size))
      clear hbx HB HAb HBb HW H5 H7
      have HAb := NHAb
      have HBb := NHBb
      have HW := NHW
      have H5 := NH5
      have H7 := NH7
      have HB := NHB
      clear NHB NHAb NHBb NHW NH5 NH7
      clear hbi hil hlt hi
      clear HW H5 H7
      have HP := Lib.hid (Below.refl w11.heap.size w11)
      have HL := Lib.hid (show (Instr.loadAt 47 (.pointer (some ⟨bb, 0, none⟩))).run Tryz.prog w11 = .ok (.agg (snCells (⟨true, true, true, false, 1, 2, 2, 2, 2, none, 0, 0, some ⟨ab, 0, none⟩, 2, 2, 400⟩ : Sn)).toArray) w11 from run_loadAt_mid (P := Tryz.prog) w11 bb 0 47 (snCells (⟨true, true, true, false, 1, 2, 2, 2, 2, none, 0, 0, some ⟨ab, 0, none⟩, 2, 2, 400⟩ : Sn)) _ (fun j v hv => by rw [HBb.out.cell, Nat.zero_add]; exact hv) Tryz.underlying47 rfl (info_seen _))
      clear HP
      have HR0 := Lib.hid (show w11.rangeAt bb 0 (snCells (⟨true, true, true, false, 1, 2, 2, 2, 2, none, 0, 0, some ⟨ab, 0, none⟩, 2, 2, 400⟩ : Sn)) from fun j v hv => by rw [HBb.out.cell, Nat.zero_add]; exact hv)
      go_upto_region 17 with (first | ((with_reducible refine wpList_loadS rfl _ rfl bb 0 (⟨true, true, true, false, 1, 2, 2, 2, 2, none, 0, 0, some ⟨ab, 0, none⟩, 2, 2, 400⟩ : Sn) HR0.out ?_ ?_); rfl) | ((with_reducible refine wpList_storeS rfl _ _ rfl _ (⟨true, true, true, false, 1, 2, 2, 2, 2, none, 0, 0, some ⟨ab, 0, none⟩, 2, 2, 400⟩ : Sn) ?_ ?_ ?_); rfl; rfl))
      clear HR0 HL
      have HP := Lib.hid (Below.refl w11.heap.size w11)
      have hX : Blk (w11.alloc (.cells (snCells (⟨true, true, true, false, 1, 2, 2, 2, 2, none, 0, 0, some ⟨ab, 0, none⟩, 2, 2, 400⟩ : Sn)).toArray 47)) w11.heap.size (snCells (⟨true, true, true, false, 1, 2, 2, 2, 2, none, 0, 0, some ⟨ab, 0, none⟩, 2, 2, 400⟩ : Sn)) 47 := Blk.new w11 (snCells (⟨true, true, true, false, 1, 2, 2, 2, 2, none, 0, 0, some ⟨ab, 0, none⟩, 2, 2, 400⟩ : Sn)) 47
      have hbX := HP.out.alloc HP.out.size (.cells (snCells (⟨true, true, true, false, 1, 2, 2, 2, 2, none, 0, 0, some ⟨ab, 0, none⟩, 2, 2, 400⟩ : Sn)).toArray 47)
      obtain ⟨cb, hcb⟩ : ∃ x, w11.heap.size = x := ⟨_, rfl⟩
      have Hcbs := Lib.hid (show w11.heap.size ≤ cb by rw [← hcb]; exact HP.out.size)
      rw [hcb] at hX
      try simp only [hcb]
      generalize w11.alloc (.cells (snCells (⟨true, true, true, false, 1, 2, 2, 2, 2, none, 0, 0, some ⟨ab, 0, none⟩, 2, 2, 400⟩ : Sn)).toArray 47) = w12 at *
      have HCb := Lib.hid hX
      clear HP
      have HP := Lib.hid hbX
      clear hX hbX hcb
      have f0 := HCb.out.free 0
      have g0 : w12.cell? ⟨cb, 0, none⟩ = some (.bool true) := by rw [HCb.out.cell]; rfl
      have hX0 := HCb.out.set 0 (.bool false)
      have hX : Blk (w12.setCell ⟨cb, 0, none⟩ (.bool false)) cb (snCells (⟨false, true, true, false, 1, 2, 2, 2, 2, none, 0, 0, some ⟨ab, 0, none⟩, 2, 2, 400⟩ : Sn)) 47 := hX0
      have hm : Mod [cb] w12 (w12.setCell ⟨cb, 0, none⟩ (.bool false)) := (Mod.refl _ _).setCell _ _ (.inl (by simp))
      have hbX := HP.out.trans (hm.below (fun x hx => by simp only [List.mem_singleton] at hx; have := Hcbs.out; omega) HP.out.size)
      clear HCb HP hX0 hm
      have HCb := Lib.hid hX
      have HP := Lib.hid hbX
      clear hX hbX
      go_upto_region 18 with fail
      clear f0 g0
      generalize (w12.setCell ⟨cb, 0, none⟩ (.bool false)) = w13 at *
      have f0 := HCb.out.free 4
      have g0 : w13.cell? ⟨cb, 4, none⟩ = some (.int .u64 1) := by rw [HCb.out.cell]; rfl
      have hX0 := HCb.out.set 4 (.int .u64 9)
      have hX : Blk (w13.setCell ⟨cb, 4, none⟩ (.int .u64 9)) cb (snCells (⟨false, true, true, false, 9, 2, 2, 2, 2, none, 0, 0, some ⟨ab, 0, none⟩, 2, 2, 400⟩ : Sn)) 47 := hX0
      have hm : Mod [cb] w13 (w13.setCell ⟨cb, 4, none⟩ (.int .u64 9)) := (Mod.refl _ _).setCell _ _ (.inl (by simp))
      have hbX := HP.out.trans (hm.below (fun x hx => by simp only [List.mem_singleton] at hx; have := Hcbs.out; omega) HP.out.size)
      clear HCb HP hX0 hm
      have HCb := Lib.hid hX
      have HP := Lib.hid hbX
      clear hX hbX
      go_upto_region 19 with fail
      clear f0 g0
      generalize (w13.setCell ⟨cb, 4, none⟩ (.int .u64 9)) = w14 at *
      have hbx := HP.out
      have NHAb := Lib.hid (HAb.out.on hbx)
      have NHBb := Lib.hid (HBb.out.on hbx)
      have NHB := Lib.hid (HB.out.trans (hbx.mono HB.out.size))
      clear hbx HB HAb HBb
      have HAb := NHAb
      have HBb := NHBb
      have HB := NHB
      clear NHB NHAb NHBb
      clear HP
      clear Hcbs
      have HP := Lib.hid (Below.refl w14.heap.size w14)
      have HL := Lib.hid (show (Instr.loadAt 47 (.pointer (some ⟨cb, 0, none⟩))).run Tryz.prog w14 = .ok (.agg (snCells (⟨false, true, true, false, 9, 2, 2, 2, 2, none, 0, 0, some ⟨ab, 0, none⟩, 2, 2, 400⟩ : Sn)).toArray) w14 from run_loadAt_mid (P := Tryz.prog) w14 cb 0 47 (snCells (⟨false, true, true, false, 9, 2, 2, 2, 2, none, 0, 0, some ⟨ab, 0, none⟩, 2, 2, 400⟩ : Sn)) _ (fun j v hv => by rw [HCb.out.cell, Nat.zero_add]; exact hv) Tryz.underlying47 rfl (info_seen _))
      clear HP
      have HR0 := Lib.hid (show w14.rangeAt cb 0 (snCells (⟨false, true, true, false, 9, 2, 2, 2, 2, none, 0, 0, some ⟨ab, 0, none⟩, 2, 2, 400⟩ : Sn)) from fun j v hv => by rw [HCb.out.cell, Nat.zero_add]; exact hv)
      go_upto_region 20 with (first | ((with_reducible refine wpList_loadS rfl _ rfl cb 0 (⟨false, true, true, false, 9, 2, 2, 2, 2, none, 0, 0, some ⟨ab, 0, none⟩, 2, 2, 400⟩ : Sn) HR0.out ?_ ?_); rfl) | ((with_reducible refine wpList_storeS rfl _ _ rfl _ (⟨false, true, true, false, 9, 2, 2, 2, 2, none, 0, 0, some ⟨ab, 0, none⟩, 2, 2, 400⟩ : Sn) ?_ ?_ ?_); rfl; rfl))
      clear HR0 HL
      have HP := Lib.hid (Below.refl w14.heap.size w14)
      have hX : Blk (w14.alloc (.cells (snCells (⟨false, true, true, false, 9, 2, 2, 2, 2, none, 0, 0, some ⟨ab, 0, none⟩, 2, 2, 400⟩ : Sn)).toArray 47)) w14.heap.size (snCells (⟨false, true, true, false, 9, 2, 2, 2, 2, none, 0, 0, some ⟨ab, 0, none⟩, 2, 2, 400⟩ : Sn)) 47 := Blk.new w14 (snCells (⟨false, true, true, false, 9, 2, 2, 2, 2, none, 0, 0, some ⟨ab, 0, none⟩, 2, 2, 400⟩ : Sn)) 47
      have hbX := HP.out.alloc HP.out.size (.cells (snCells (⟨false, true, true, false, 9, 2, 2, 2, 2, none, 0, 0, some ⟨ab, 0, none⟩, 2, 2, 400⟩ : Sn)).toArray 47)
      obtain ⟨db, hdb⟩ : ∃ x, w14.heap.size = x := ⟨_, rfl⟩
      have Hdbs := Lib.hid (show w14.heap.size ≤ db by rw [← hdb]; exact HP.out.size)
      rw [hdb] at hX
      try simp only [hdb]
      generalize w14.alloc (.cells (snCells (⟨false, true, true, false, 9, 2, 2, 2, 2, none, 0, 0, some ⟨ab, 0, none⟩, 2, 2, 400⟩ : Sn)).toArray 47) = w15 at *
      have HDb := Lib.hid hX
      clear HP
      have HP := Lib.hid hbX
      clear hX hbX hdb
      have f0 := HDb.out.free 8
      have g0 : w15.cell? ⟨db, 8, none⟩ = some (.int .u64 2) := by rw [HDb.out.cell]; rfl
      have hX0 := HDb.out.set 8 (.int .u64 9)
      have hX : Blk (w15.setCell ⟨db, 8, none⟩ (.int .u64 9)) db (snCells (⟨false, true, true, false, 9, 2, 2, 2, 9, none, 0, 0, some ⟨ab, 0, none⟩, 2, 2, 400⟩ : Sn)) 47 := hX0
      have hm : Mod [db] w15 (w15.setCell ⟨db, 8, none⟩ (.int .u64 9)) := (Mod.refl _ _).setCell _ _ (.inl (by simp))
      have hbX := HP.out.trans (hm.below (fun x hx => by simp only [List.mem_singleton] at hx; have := Hdbs.out; omega) HP.out.size)
      clear HDb HP hX0 hm
      have HDb := Lib.hid hX
      have HP := Lib.hid hbX
      clear hX hbX
      go_upto_region 21 with fail
      clear f0 g0
      generalize (w15.setCell ⟨db, 8, none⟩ (.int .u64 9)) = w16 at *
      have hbx := HP.out
      have NHAb := Lib.hid (HAb.out.on hbx)
      have NHBb := Lib.hid (HBb.out.on hbx)
      have NHCb := Lib.hid (HCb.out.on hbx)
      have NHB := Lib.hid (HB.out.trans (hbx.mono HB.out.size))
      clear hbx HB HAb HBb HCb
      have HAb := NHAb
      have HBb := NHBb
      have HCb := NHCb
      have HB := NHB
      clear NHB NHAb NHBb NHCb
      clear HP
      clear Hdbs
      have HP := Lib.hid (Below.refl w16.heap.size w16)
      have HL := Lib.hid (show (Instr.loadAt 47 (.pointer (some ⟨bb, 0, none⟩))).run Tryz.prog w16 = .ok (.agg (snCells (⟨true, true, true, false, 1, 2, 2, 2, 2, none, 0, 0, some ⟨ab, 0, none⟩, 2, 2, 400⟩ : Sn)).toArray) w16 from run_loadAt_mid (P := Tryz.prog) w16 bb 0 47 (snCells (⟨true, true, true, false, 1, 2, 2, 2, 2, none, 0, 0, some ⟨ab, 0, none⟩, 2, 2, 400⟩ : Sn)) _ (fun j v hv => by rw [HBb.out.cell, Nat.zero_add]; exact hv) Tryz.underlying47 rfl (info_seen _))
      clear HP
      have HR0 := Lib.hid (show w16.rangeAt bb 0 (snCells (⟨true, true, true, false, 1, 2, 2, 2, 2, none, 0, 0, some ⟨ab, 0, none⟩, 2, 2, 400⟩ : Sn)) from fun j v hv => by rw [HBb.out.cell, Nat.zero_add]; exact hv)
      go_upto_region 22 with (first | ((with_reducible refine wpList_loadS rfl _ rfl bb 0 (⟨true, true, true, false, 1, 2, 2, 2, 2, none, 0, 0, some ⟨ab, 0, none⟩, 2, 2, 400⟩ : Sn) HR0.out ?_ ?_); rfl) | ((with_reducible refine wpList_storeS rfl _ _ rfl _ (⟨true, true, true, false, 1, 2, 2, 2, 2, none, 0, 0, some ⟨ab, 0, none⟩, 2, 2, 400⟩ : Sn) ?_ ?_ ?_); rfl; rfl))
      clear HR0 HL
      have HP := Lib.hid (Below.refl w16.heap.size w16)
      have hX : Blk (w16.alloc (.cells (snCells (⟨true, true, true, false, 1, 2, 2, 2, 2, none, 0, 0, some ⟨ab, 0, none⟩, 2, 2, 400⟩ : Sn)).toArray 47)) w16.heap.size (snCells (⟨true, true, true, false, 1, 2, 2, 2, 2, none, 0, 0, some ⟨ab, 0, none⟩, 2, 2, 400⟩ : Sn)) 47 := Blk.new w16 (snCells (⟨true, true, true, false, 1, 2, 2, 2, 2, none, 0, 0, some ⟨ab, 0, none⟩, 2, 2, 400⟩ : Sn)) 47
      have hbX := HP.out.alloc HP.out.size (.cells (snCells (⟨true, true, true, false, 1, 2, 2, 2, 2, none, 0, 0, some ⟨ab, 0, none⟩, 2, 2, 400⟩ : Sn)).toArray 47)
      obtain ⟨eb, heb⟩ : ∃ x, w16.heap.size = x := ⟨_, rfl⟩
      have Hebs := Lib.hid (show w16.heap.size ≤ eb by rw [← heb]; exact HP.out.size)
      rw [heb] at hX
      try simp only [heb]
      generalize w16.alloc (.cells (snCells (⟨true, true, true, false, 1, 2, 2, 2, 2, none, 0, 0, some ⟨ab, 0, none⟩, 2, 2, 400⟩ : Sn)).toArray 47) = w17 at *
      have HEb := Lib.hid hX
      clear HP
      have HP := Lib.hid hbX
      clear hX hbX heb
      have f0 := HEb.out.free 10
      have g0 : w17.cell? ⟨eb, 10, none⟩ = some (.slice (some ⟨ab, 0, none⟩) 2 2) := by rw [HEb.out.cell]; rfl
      have hX0 := HEb.out.set 10 (.slice none 0 0)
      have hX : Blk (w17.setCell ⟨eb, 10, none⟩ (.slice none 0 0)) eb (snCells (⟨true, true, true, false, 1, 2, 2, 2, 2, none, 0, 0, none, 0, 0, 400⟩ : Sn)) 47 := hX0
      have hm : Mod [eb] w17 (w17.setCell ⟨eb, 10, none⟩ (.slice none 0 0)) := (Mod.refl _ _).setCell _ _ (.inl (by simp))
      have hbX := HP.out.trans (hm.below (fun x hx => by simp only [List.mem_singleton] at hx; have := Hebs.out; omega) HP.out.size)
      clear HEb HP hX0 hm
      have HEb := Lib.hid hX
      have HP := Lib.hid hbX
      clear hX hbX
      go_upto_region 23 with fail
      clear f0 g0
      generalize (w17.setCell ⟨eb, 10, none⟩ (.slice none 0 0)) = w18 at *
      have hbx := HP.out
      have NHAb := Lib.hid (HAb.out.on hbx)
      have NHBb := Lib.hid (HBb.out.on hbx)
      have NHCb := Lib.hid (HCb.out.on hbx)
      have NHDb := Lib.hid (HDb.out.on hbx)
      have NHB := Lib.hid (HB.out.trans (hbx.mono HB.out.size))
      clear hbx HB HAb HBb HCb HDb
      have HAb := NHAb
      have HBb := NHBb
      have HCb := NHCb
      have HDb := NHDb
      have HB := NHB
      clear NHB NHAb NHBb NHCb NHDb
      clear HP
      clear Hebs
      have HL0 := Lib.hid (show (Instr.loadAt 47 (.pointer (some ⟨bb, 0, none⟩))).run Tryz.prog w18 = .ok (.agg (snCells (⟨true, true, true, false, 1, 2, 2, 2, 2, none, 0, 0, some ⟨ab, 0, none⟩, 2, 2, 400⟩ : Sn)).toArray) w18 from run_loadAt_mid (P := Tryz.prog) w18 bb 0 47 (snCells (⟨true, true, true, false, 1, 2, 2, 2, 2, none, 0, 0, some ⟨ab, 0, none⟩, 2, 2, 400⟩ : Sn)) _ (fun j v hv => by rw [HBb.out.cell, Nat.zero_add]; exact hv) Tryz.underlying47 rfl (info_seen _))
      have HL1 := Lib.hid (show (Instr.loadAt 47 (.pointer (some ⟨eb, 0, none⟩))).run Tryz.prog w18 = .ok (.agg (snCells (⟨true, true, true, false, 1, 2, 2, 2, 2, none, 0, 0, none, 0, 0, 400⟩ : Sn)).toArray) w18 from run_loadAt_mid (P := Tryz.prog) w18 eb 0 47 (snCells (⟨true, true, true, false, 1, 2, 2, 2, 2, none, 0, 0, none, 0, 0, 400⟩ : Sn)) _ (fun j v hv => by rw [HEb.out.cell, Nat.zero_add]; exact hv) Tryz.underlying47 rfl (info_seen _))
      refine wp_region_seq ?_
      refine seq_val _ (by rfl) (exec_load _ _ rfl _ rfl HL0.out) ?_
      simp only [Act.put, List.setIfInBounds_toArray, List.set_cons_zero, List.set_cons_succ]
      refine seq_val _ (by rfl) (exec_load _ _ rfl _ rfl HL1.out) ?_
      simp only [Act.put, List.setIfInBounds_toArray, List.set_cons_zero, List.set_cons_succ]
      refine seq_val _ (by rfl) (exec_load _ _ rfl _ rfl HL1.out) ?_
      simp only [Act.put, List.setIfInBounds_toArray, List.set_cons_zero, List.set_cons_succ]
      refine seq_val _ (by rfl) (exec_load _ _ rfl _ rfl HL1.out) ?_
      simp only [Act.put, List.setIfInBounds_toArray, List.set_cons_zero, List.set_cons_succ]
      refine seq_val _ (by rfl) (exec_load _ _ rfl _ rfl HL1.out) ?_
      simp only [Act.put, List.setIfInBounds_toArray, List.set_cons_zero, List.set_cons_succ]
      refine seq_val _ (by rfl) (exec_load _ _ rfl _ rfl HL1.out) ?_
      simp only [Act.put, List.setIfInBounds_toArray, List.set_cons_zero, List.set_cons_succ]
      refine seq_step (by rfl) (fun K hK => ?_)
      (with_reducible refine wp_buildS6 _ _ _ _ _ _ rfl (⟨true, true, true, false, 1, 2, 2, 2, 2, none, 0, 0, some ⟨ab, 0, none⟩, 2, 2, 400⟩ : Sn) (⟨true, true, true, false, 1, 2, 2, 2, 2, none, 0, 0, none, 0, 0, 400⟩ : Sn) (⟨true, true, true, false, 1, 2, 2, 2, 2, none, 0, 0, none, 0, 0, 400⟩ : Sn) (⟨true, true, true, false, 1, 2, 2, 2, 2, none, 0, 0, none, 0, 0, 400⟩ : Sn) (⟨true, true, true, false, 1, 2, 2, 2, 2, none, 0, 0, none, 0, 0, 400⟩ : Sn) (⟨true, true, true, false, 1, 2, 2, 2, 2, none, 0, 0, none, 0, 0, 400⟩ : Sn) ?_ ?_ ?_ ?_ ?_ ?_ ?_) <;> try rfl
      refine hK.out _ _ ?_
      clear hK K
      simp only [Act.put, List.setIfInBounds_toArray, List.set_cons_zero, List.set_cons_succ]
      refine seq_step (by rfl) (fun K hK => ?_)
      go_simp
      refine hK.out _ _ ?_
      clear hK K
      refine seq_nil ?_
      clear HL0 HL1
      generalize Value.agg (snCells (⟨true, true, true, false, 1, 2, 2, 2, 2, none, 0, 0, some ⟨ab, 0, none⟩, 2, 2, 400⟩ : Sn)).toArray = gS1 at *
      generalize Value.agg (snCells (⟨true, true, true, false, 1, 2, 2, 2, 2, none, 0, 0, none, 0, 0, 400⟩ : Sn)).toArray = gS2 at *
      have HP := Lib.hid (Below.refl w18.heap.size w18)
      have hX : Blk (w18.alloc (.cells (snsCells [(⟨true, true, true, false, 1, 2, 2, 2, 2, none, 0, 0, some ⟨ab, 0, none⟩, 2, 2, 400⟩ : Sn), (⟨true, true, true, false, 1, 2, 2, 2, 2, none, 0, 0, none, 0, 0, 400⟩ : Sn), (⟨true, true, true, false, 1, 2, 2, 2, 2, none, 0, 0, none, 0, 0, 400⟩ : Sn), (⟨true, true, true, false, 1, 2, 2, 2, 2, none, 0, 0, none, 0, 0, 400⟩ : Sn), (⟨true, true, true, false, 1, 2, 2, 2, 2, none, 0, 0, none, 0, 0, 400⟩ : Sn), (⟨true, true, true, false, 1, 2, 2, 2, 2, none, 0, 0, none, 0, 0, 400⟩ : Sn)]).toArray 47)) w18.heap.size (snsCells [(⟨true, true, true, false, 1, 2, 2, 2, 2, none, 0, 0, some ⟨ab, 0, none⟩, 2, 2, 400⟩ : Sn), (⟨true, true, true, false, 1, 2, 2, 2, 2, none, 0, 0, none, 0, 0, 400⟩ : Sn), (⟨true, true, true, false, 1, 2, 2, 2, 2, none, 0, 0, none, 0, 0, 400⟩ : Sn), (⟨true, true, true, false, 1, 2, 2, 2, 2, none, 0, 0, none, 0, 0, 400⟩ : Sn), (⟨true, true, true, false, 1, 2, 2, 2, 2, none, 0, 0, none, 0, 0, 400⟩ : Sn), (⟨true, true, true, false, 1, 2, 2, 2, 2, none, 0, 0, none, 0, 0, 400⟩ : Sn)]) 47 := Blk.new w18 (snsCells [(⟨true, true, true, false, 1, 2, 2, 2, 2, none, 0, 0, some ⟨ab, 0, none⟩, 2, 2, 400⟩ : Sn), (⟨true, true, true, false, 1, 2, 2, 2, 2, none, 0, 0, none, 0, 0, 400⟩ : Sn), (⟨true, true, true, false, 1, 2, 2, 2, 2, none, 0, 0, none, 0, 0, 400⟩ : Sn), (⟨true, true, true, false, 1, 2, 2, 2, 2, none, 0, 0, none, 0, 0, 400⟩ : Sn), (⟨true, true, true, false, 1, 2, 2, 2, 2, none, 0, 0, none, 0, 0, 400⟩ : Sn), (⟨true, true, true, false, 1, 2, 2, 2, 2, none, 0, 0, none, 0, 0, 400⟩ : Sn)]) 47
      have hbX := HP.out.alloc HP.out.size (.cells (snsCells [(⟨true, true, true, false, 1, 2, 2, 2, 2, none, 0, 0, some ⟨ab, 0, none⟩, 2, 2, 400⟩ : Sn), (⟨true, true, true, false, 1, 2, 2, 2, 2, none, 0, 0, none, 0, 0, 400⟩ : Sn), (⟨true, true, true, false, 1, 2, 2, 2, 2, none, 0, 0, none, 0, 0, 400⟩ : Sn), (⟨true, true, true, false, 1, 2, 2, 2, 2, none, 0, 0, none, 0, 0, 400⟩ : Sn), (⟨true, true, true, false, 1, 2, 2, 2, 2, none, 0, 0, none, 0, 0, 400⟩ : Sn), (⟨true, true, true, false, 1, 2, 2, 2, 2, none, 0, 0, none, 0, 0, 400⟩ : Sn)]).toArray 47)
      obtain ⟨lb, hlb⟩ : ∃ x, w18.heap.size = x := ⟨_, rfl⟩
      have Hlbs := Lib.hid (show w18.heap.size ≤ lb by rw [← hlb]; exact HP.out.size)
      rw [hlb] at hX
      try simp only [hlb]
      generalize w18.alloc (.cells (snsCells [(⟨true, true, true, false, 1, 2, 2, 2, 2, none, 0, 0, some ⟨ab, 0, none⟩, 2, 2, 400⟩ : Sn), (⟨true, true, true, false, 1, 2, 2, 2, 2, none, 0, 0, none, 0, 0, 400⟩ : Sn), (⟨true, true, true, false, 1, 2, 2, 2, 2, none, 0, 0, none, 0, 0, 400⟩ : Sn), (⟨true, true, true, false, 1, 2, 2, 2, 2, none, 0, 0, none, 0, 0, 400⟩ : Sn), (⟨true, true, true, false, 1, 2, 2, 2, 2, none, 0, 0, none, 0, 0, 400⟩ : Sn), (⟨true, true, true, false, 1, 2, 2, 2, 2, none, 0, 0, none, 0, 0, 400⟩ : Sn)]).toArray 47) = w19 at *
      have HW := Lib.hid hX
      clear HP
      have HP := Lib.hid hbX
      clear hX hbX hlb
      have f0 := HW.out.free 14
      have g0 : w19.cell? ⟨lb, 14, none⟩ = some (.bool true) := by rw [HW.out.cell]; rfl
      have hX0 := HW.out.set 14 (.bool false)
      have hX : Blk (w19.setCell ⟨lb, 14, none⟩ (.bool false)) lb (snsCells [(⟨true, true, true, false, 1, 2, 2, 2, 2, none, 0, 0, some ⟨ab, 0, none⟩, 2, 2, 400⟩ : Sn), (⟨true, true, false, false, 1, 2, 2, 2, 2, none, 0, 0, none, 0, 0, 400⟩ : Sn), (⟨true, true, true, false, 1, 2, 2, 2, 2, none, 0, 0, none, 0, 0, 400⟩ : Sn), (⟨true, true, true, false, 1, 2, 2, 2, 2, none, 0, 0, none, 0, 0, 400⟩ : Sn), (⟨true, true, true, false, 1, 2, 2, 2, 2, none, 0, 0, none, 0, 0, 400⟩ : Sn), (⟨true, true, true, false, 1, 2, 2, 2, 2, none, 0, 0, none, 0, 0, 400⟩ : Sn)]) 47 := hX0
      have hm : Mod [lb] w19 (w19.setCell ⟨lb, 14, none⟩ (.bool false)) := (Mod.refl _ _).setCell _ _ (.inl (by simp))
      have hbX := HP.out.trans (hm.below (fun x hx => by simp only [List.mem_singleton] at hx; have := Hlbs.out; omega) HP.out.size)
      clear HW HP hX0 hm
      have HW := Lib.hid hX
      have HP := Lib.hid hbX
      clear hX hbX
      go_upto_region 25 with fail
      clear f0 g0
      generalize (w19.setCell ⟨lb, 14, none⟩ (.bool false)) = w20 at *
      have f0 := HW.out.free 25
      have g0 : w20.cell? ⟨lb, 25, none⟩ = some (.bool true) := by rw [HW.out.cell]; rfl
      have hX0 := HW.out.set 25 (.bool false)
      have hX : Blk (w20.setCell ⟨lb, 25, none⟩ (.bool false)) lb (snsCells [(⟨true, true, true, false, 1, 2, 2, 2, 2, none, 0, 0, some ⟨ab, 0, none⟩, 2, 2, 400⟩ : Sn), (⟨true, true, false, false, 1, 2, 2, 2, 2, none, 0, 0, none, 0, 0, 400⟩ : Sn), (⟨true, false, true, false, 1, 2, 2, 2, 2, none, 0, 0, none, 0, 0, 400⟩ : Sn), (⟨true, true, true, false, 1, 2, 2, 2, 2, none, 0, 0, none, 0, 0, 400⟩ : Sn), (⟨true, true, true, false, 1, 2, 2, 2, 2, none, 0, 0, none, 0, 0, 400⟩ : Sn), (⟨true, true, true, false, 1, 2, 2, 2, 2, none, 0, 0, none, 0, 0, 400⟩ : Sn)]) 47 := hX0
      have hm : Mod [lb] w20 (w20.setCell ⟨lb, 25, none⟩ (.bool false)) := (Mod.refl _ _).setCell _ _ (.inl (by simp))
      have hbX := HP.out.trans (hm.below (fun x hx => by simp only [List.mem_singleton] at hx; have := Hlbs.out; omega) HP.out.size)
      clear HW HP hX0 hm
      have HW := Lib.hid hX
      have HP := Lib.hid hbX
      clear hX hbX
      go_upto_region 26 with fail
      clear f0 g0
      generalize (w20.setCell ⟨lb, 25, none⟩ (.bool false)) = w21 at *
      have f0 := HW.out.free 44
      have g0 : w21.cell? ⟨lb, 44, none⟩ = some (.int .u64 2) := by rw [HW.out.cell]; rfl
      have hX0 := HW.out.set 44 (.int .u64 1)
      have hX : Blk (w21.setCell ⟨lb, 44, none⟩ (.int .u64 1)) lb (snsCells [(⟨true, true, true, false, 1, 2, 2, 2, 2, none, 0, 0, some ⟨ab, 0, none⟩, 2, 2, 400⟩ : Sn), (⟨true, true, false, false, 1, 2, 2, 2, 2, none, 0, 0, none, 0, 0, 400⟩ : Sn), (⟨true, false, true, false, 1, 2, 2, 2, 2, none, 0, 0, none, 0, 0, 400⟩ : Sn), (⟨true, true, true, false, 1, 2, 2, 2, 1, none, 0, 0, none, 0, 0, 400⟩ : Sn), (⟨true, true, true, false, 1, 2, 2, 2, 2, none, 0, 0, none, 0, 0, 400⟩ : Sn), (⟨true, true, true, false, 1, 2, 2, 2, 2, none, 0, 0, none, 0, 0, 400⟩ : Sn)]) 47 := hX0
      have hm : Mod [lb] w21 (w21.setCell ⟨lb, 44, none⟩ (.int .u64 1)) := (Mod.refl _ _).setCell _ _ (.inl (by simp))
      have hbX := HP.out.trans (hm.below (fun x hx => by simp only [List.mem_singleton] at hx; have := Hlbs.out; omega) HP.out.size)
      clear HW HP hX0 hm
      have HW := Lib.hid hX
      have HP := Lib.hid hbX
      clear hX hbX
      go_upto_region 27 with fail
      clear f0 g0
      generalize (w21.setCell ⟨lb, 44, none⟩ (.int .u64 1)) = w22 at *
      have f0 := HW.out.free 54
      have g0 : w22.cell? ⟨lb, 54, none⟩ = some (.int .u64 2) := by rw [HW.out.cell]; rfl
      have hX0 := HW.out.set 54 (.int .u64 3)
      have hX : Blk (w22.setCell ⟨lb, 54, none⟩ (.int .u64 3)) lb (snsCells [(⟨true, true, true, false, 1, 2, 2, 2, 2, none, 0, 0, some ⟨ab, 0, none⟩, 2, 2, 400⟩ : Sn), (⟨true, true, false, false, 1, 2, 2, 2, 2, none, 0, 0, none, 0, 0, 400⟩ : Sn), (⟨true, false, true, false, 1, 2, 2, 2, 2, none, 0, 0, none, 0, 0, 400⟩ : Sn), (⟨true, true, true, false, 1, 2, 2, 2, 1, none, 0, 0, none, 0, 0, 400⟩ : Sn), (⟨true, true, true, false, 1, 2, 3, 2, 2, none, 0, 0, none, 0, 0, 400⟩ : Sn), (⟨true, true, true, false, 1, 2, 2, 2, 2, none, 0, 0, none, 0, 0, 400⟩ : Sn)]) 47 := hX0
      have hm : Mod [lb] w22 (w22.setCell ⟨lb, 54, none⟩ (.int .u64 3)) := (Mod.refl _ _).setCell _ _ (.inl (by simp))
      have hbX := HP.out.trans (hm.below (fun x hx => by simp only [List.mem_singleton] at hx; have := Hlbs.out; omega) HP.out.size)
      clear HW HP hX0 hm
      have HW := Lib.hid hX
      have HP := Lib.hid hbX
      clear hX hbX
      go_upto_region 28 with fail
      clear f0 g0
      generalize (w22.setCell ⟨lb, 54, none⟩ (.int .u64 3)) = w23 at *
      have f0 := HW.out.free 60
      have g0 : w23.cell? ⟨lb, 60, none⟩ = some (.bool true) := by rw [HW.out.cell]; rfl
      have hX0 := HW.out.set 60 (.bool false)
      have hX : Blk (w23.setCell ⟨lb, 60, none⟩ (.bool false)) lb (snsCells [(⟨true, true, true, false, 1, 2, 2, 2, 2, none, 0, 0, some ⟨ab, 0, none⟩, 2, 2, 400⟩ : Sn), (⟨true, true, false, false, 1, 2, 2, 2, 2, none, 0, 0, none, 0, 0, 400⟩ : Sn), (⟨true, false, true, false, 1, 2, 2, 2, 2, none, 0, 0, none, 0, 0, 400⟩ : Sn), (⟨true, true, true, false, 1, 2, 2, 2, 1, none, 0, 0, none, 0, 0, 400⟩ : Sn), (⟨true, true, true, false, 1, 2, 3, 2, 2, none, 0, 0, none, 0, 0, 400⟩ : Sn), (⟨false, true, true, false, 1, 2, 2, 2, 2, none, 0, 0, none, 0, 0, 400⟩ : Sn)]) 47 := hX0
      have hm : Mod [lb] w23 (w23.setCell ⟨lb, 60, none⟩ (.bool false)) := (Mod.refl _ _).setCell _ _ (.inl (by simp))
      have hbX := HP.out.trans (hm.below (fun x hx => by simp only [List.mem_singleton] at hx; have := Hlbs.out; omega) HP.out.size)
      clear HW HP hX0 hm
      have HW := Lib.hid hX
      have HP := Lib.hid hbX
      clear hX hbX
      go_upto_region 29 with fail
      clear f0 g0
      generalize (w23.setCell ⟨lb, 60, none⟩ (.bool false)) = w24 at *
      have hbx := HP.out
      have NHAb := Lib.hid (HAb.out.on hbx)
      have NHBb := Lib.hid (HBb.out.on hbx)
      have NHCb := Lib.hid (HCb.out.on hbx)
      have NHDb := Lib.hid (HDb.out.on hbx)
      have NHEb := Lib.hid (HEb.out.on hbx)
      have NHB := Lib.hid (HB.out.trans (hbx.mono HB.out.size))
      clear hbx HB HAb HBb HCb HDb HEb
      have HAb := NHAb
      have HBb := NHBb
      have HCb := NHCb
      have HDb := NHDb
      have HEb := NHEb
      have HB := NHB
      clear NHB NHAb NHBb NHCb NHDb NHEb
      clear HP
      clear Hlbs
      have HAll := Lib.hid (show ∀ s ∈ ([(⟨true, true, true, false, 1, 2, 2, 2, 2, none, 0, 0, some ⟨ab, 0, none⟩, 2, 2, 400⟩ : Sn), (⟨true, true, false, false, 1, 2, 2, 2, 2, none, 0, 0, none, 0, 0, 400⟩ : Sn), (⟨true, false, true, false, 1, 2, 2, 2, 2, none, 0, 0, none, 0, 0, 400⟩ : Sn), (⟨true, true, true, false, 1, 2, 2, 2, 1, none, 0, 0, none, 0, 0, 400⟩ : Sn), (⟨true, true, true, false, 1, 2, 3, 2, 2, none, 0, 0, none, 0, 0, 400⟩ : Sn), (⟨false, true, true, false, 1, 2, 2, 2, 2, none, 0, 0, none, 0, 0, 400⟩ : Sn)] : List Sn), ∀ w', Below w24.heap.size w24 w' → Calls Tryz.prog 21 #[.agg (snCells s).toArray, .slice none 0 0] w' fun e w'' => e = .returned (.bool false) ∧ Below w'.heap.size w' w'' from fun s hs w' hb => by
        simp only [List.mem_cons, List.not_mem_nil, or_false] at hs
        rcases hs with rfl | rfl | rfl | rfl | rfl | rfl
        · exact quietK w' _ [3, 4] rfl none 0 0 [] (MadeAt.nil _) (by omega) false (by kernel_rfl)
        · exact quietK w' _ [] rfl none 0 0 [] (MadeAt.nil _) (by omega) false (by kernel_rfl)
        · exact quietK w' _ [] rfl none 0 0 [] (MadeAt.nil _) (by omega) false (by kernel_rfl)
        · exact quietK w' _ [] rfl none 0 0 [] (MadeAt.nil _) (by omega) false (by kernel_rfl)
        · exact quietK w' _ [] rfl none 0 0 [] (MadeAt.nil _) (by omega) false (by kernel_rfl)
        · exact quietK w' _ [] rfl none 0 0 [] (MadeAt.nil _) (by omega) false (by kernel_rfl))
      go_wp2_with fail
      go_loopw [0, 8] (fun _ s3 wr => ∃ i : Nat, i ≤ 6 ∧ s3 = .int .i64 i ∧ Below w24.heap.size w24 wr) (fun _ s3 _ => 6 - (intOf s3).toNat)
      case atStart => exact ⟨0, by omega, rfl, Below.refl _ _⟩
      case round =>
        obtain ⟨i, hi, rfl, hbi⟩ := hrel
        by_cases hlt : i < 6
        · have hil : (i : Int) < 6 := by omega
          obtain ⟨s, hs⟩ : ∃ s, ([(⟨true, true, true, false, 1, 2, 2, 2, 2, none, 0, 0, some ⟨ab, 0, none⟩, 2, 2, 400⟩ : Sn), (⟨true, true, false, false, 1, 2, 2, 2, 2, none, 0, 0, none, 0, 0, 400⟩ : Sn), (⟨true, false, true, false, 1, 2, 2, 2, 2, none, 0, 0, none, 0, 0, 400⟩ : Sn), (⟨true, true, true, false, 1, 2, 2, 2, 1, none, 0, 0, none, 0, 0, 400⟩ : Sn), (⟨true, true, true, false, 1, 2, 3, 2, 2, none, 0, 0, none, 0, 0, 400⟩ : Sn), (⟨false, true, true, false, 1, 2, 2, 2, 2, none, 0, 0, none, 0, 0, 400⟩ : Sn)] : List Sn)[i]? = some s := ⟨_, List.getElem?_eq_getElem (by simpa using hlt)⟩
          have HR := Lib.hid (sns_range (HW.out.on hbi) hs)
          have HK := Lib.hid (HAll.out s (List.mem_of_getElem? hs) _ hbi)
          have HBi := Lib.hid hbi
          clear hs hbi
          go_wp2_with ((with_reducible refine wpList_loadS rfl _ rfl lb (i * 12) s HR.out ?_ ?_); rfl)
          refine HK.out.mono ?_
          rintro e wq ⟨rfl, hbq⟩
          have HBq := Lib.hid (HBi.out.trans (hbq.mono HBi.out.size))
          clear hbq HR HK
          go_wp2_with fail
          go_roundw
          case rel => exact ⟨i + 1, by omega, by go_num, HBq.out⟩
          case measure => simp [intOf]; omega
        · have hil : ¬ (i : Int) < 6 := by omega
          clear HAll
          go_upto_region 34 with fail
          generalize wr = w25 at *
          have hbx := hbi
          have NHAb := Lib.hid (HAb.out.on hbx)
          have NHBb := Lib.hid (HBb.out.on hbx)
          have NHCb := Lib.hid (HCb.out.on hbx)
          have NHDb := Lib.hid (HDb.out.on hbx)
          have NHEb := Lib.hid (HEb.out.on hbx)
          have NHW := Lib.hid (HW.out.on hbx)
          have NHB := Lib.hid (HB.out.trans (hbx.mono HB.out.size))
          clear hbx HB HAb HBb HCb HDb HEb HW
          have HAb := NHAb
          have HBb := NHBb
          have HCb := NHCb
          have HDb := NHDb
          have HEb := NHEb
          have HW := NHW
          have HB := NHB
          clear NHB NHAb NHBb NHCb NHDb NHEb NHW
          clear hbi hil hlt hi
          clear HW
          have HC1 := Lib.hid (show ∀ w', Calls Tryz.prog 23 #[.int .u64 1, .int .i64 1, .int .i64 1, .string ⟨#[97]⟩, .string ⟨#[]⟩] w' fun e w'' => e = .returned (.agg (mdCells (mk28 1 1 1 [97] [])).toArray) ∧ Below w'.heap.size w' w'' from fun w' => HC.out 1 1 1 [97] [] w')
          go_wp2_with fail
          refine (HC1.out _).mono ?_
          rintro e w26 ⟨rfl, hb⟩
          have hbx := hb
          have NHAb := Lib.hid (HAb.out.on hbx)
          have NHBb := Lib.hid (HBb.out.on hbx)
          have NHCb := Lib.hid (HCb.out.on hbx)
          have NHDb := Lib.hid (HDb.out.on hbx)
          have NHEb := Lib.hid (HEb.out.on hbx)
          have NHB := Lib.hid (HB.out.trans (hbx.mono HB.out.size))
          clear hbx HB HAb HBb HCb HDb HEb
          have HAb := NHAb
          have HBb := NHBb
          have HCb := NHCb
          have HDb := NHDb
          have HEb := NHEb
          have HB := NHB
          clear NHB NHAb NHBb NHCb NHDb NHEb
          clear hb
          clear HC1
          have HP := Lib.hid (Below.refl w26.heap.size w26)
          clear HP
          go_upto_region 35 with ((with_reducible refine wpList_buildM1 rfl _ rfl (mk28 1 1 1 [97] []) ?_ ?_); rfl)
          have HP := Lib.hid (Below.refl w26.heap.size w26)
          have hX : Blk (w26.alloc (.cells (mdsCells [(mk28 1 1 1 [97] [])]).toArray 40)) w26.heap.size (mdsCells [(mk28 1 1 1 [97] [])]) 40 := Blk.new w26 (mdsCells [(mk28 1 1 1 [97] [])]) 40
          have hbX := HP.out.alloc HP.out.size (.cells (mdsCells [(mk28 1 1 1 [97] [])]).toArray 40)
          obtain ⟨mb, hmb⟩ : ∃ x, w26.heap.size = x := ⟨_, rfl⟩
          have Hmbs := Lib.hid (show w26.heap.size ≤ mb by rw [← hmb]; exact HP.out.size)
          rw [hmb] at hX
          try simp only [hmb]
          generalize w26.alloc (.cells (mdsCells [(mk28 1 1 1 [97] [])]).toArray 40) = w27 at *
          have HMb := Lib.hid hX
          clear HP
          have HP := Lib.hid hbX
          clear hX hbX hmb
          have hbx := HP.out
          have NHAb := Lib.hid (HAb.out.on hbx)
          have NHBb := Lib.hid (HBb.out.on hbx)
          have NHCb := Lib.hid (HCb.out.on hbx)
          have NHDb := Lib.hid (HDb.out.on hbx)
          have NHEb := Lib.hid (HEb.out.on hbx)
          have NHB := Lib.hid (HB.out.trans (hbx.mono HB.out.size))
          clear hbx HB HAb HBb HCb HDb HEb
          have HAb := NHAb
          have HBb := NHBb
          have HCb := NHCb
          have HDb := NHDb
          have HEb := NHEb
          have HB := NHB
          clear NHB NHAb NHBb NHCb NHDb NHEb
          clear HP
          clear Hmbs
          go_wp2_with fail
          refine (HE1.out _).mono ?_
          rintro e w28 ⟨ta, tn, tc, rfl, he1, _, hb⟩
          have hbx := hb
          have NHAb := Lib.hid (HAb.out.on hbx)
          have NHBb := Lib.hid (HBb.out.on hbx)
          have NHCb := Lib.hid (HCb.out.on hbx)
          have NHDb := Lib.hid (HDb.out.on hbx)
          have NHEb := Lib.hid (HEb.out.on hbx)
          have NHMb := Lib.hid (HMb.out.on hbx)
          have NHB := Lib.hid (HB.out.trans (hbx.mono HB.out.size))
          clear hbx HB HAb HBb HCb HDb HEb HMb
          have HAb := NHAb
          have HBb := NHBb
          have HCb := NHCb
          have HDb := NHDb
          have HEb := NHEb
          have HMb := NHMb
          have HB := NHB
          clear NHB NHAb NHBb NHCb NHDb NHEb NHMb
          clear hb
          have HT1 := Lib.hid he1
          clear he1
          go_wp2_with fail
          refine (HE2.out _).mono ?_
          rintro e w29 ⟨ub, un, uc, rfl, he2, _, hb⟩
          have hbx := hb
          have NHAb := Lib.hid (HAb.out.on hbx)
          have NHBb := Lib.hid (HBb.out.on hbx)
          have NHCb := Lib.hid (HCb.out.on hbx)
          have NHDb := Lib.hid (HDb.out.on hbx)
          have NHEb := Lib.hid (HEb.out.on hbx)
          have NHMb := Lib.hid (HMb.out.on hbx)
          have NHT1 := Lib.hid (HT1.out.on hbx)
          have NHB := Lib.hid (HB.out.trans (hbx.mono HB.out.size))
          clear hbx HB HAb HBb HCb HDb HEb HMb HT1
          have HAb := NHAb
          have HBb := NHBb
          have HCb := NHCb
          have HDb := NHDb
          have HEb := NHEb
          have HMb := NHMb
          have HT1 := NHT1
          have HB := NHB
          clear NHB NHAb NHBb NHCb NHDb NHEb NHMb NHT1
          clear hb
          have HT2 := Lib.hid he2
          clear he2 HE2
          have HP := Lib.hid (Below.refl w29.heap.size w29)
          go_upto_region 36 with fail
          have hX : Blk (w29.alloc (.cells #[.int .u64 5, .int .u64 1, .slice ta tn tc, .int .u64 5, .int .u64 2, .slice ub un uc] 43)) w29.heap.size (entsCells [⟨5, 1, ta, tn, tc⟩, ⟨5, 2, ub, un, uc⟩]) 43 := Blk.new w29 (entsCells [⟨5, 1, ta, tn, tc⟩, ⟨5, 2, ub, un, uc⟩]) 43
          have hbX := HP.out.alloc HP.out.size (.cells #[.int .u64 5, .int .u64 1, .slice ta tn tc, .int .u64 5, .int .u64 2, .slice ub un uc] 43)
          obtain ⟨tb, htb⟩ : ∃ x, w29.heap.size = x := ⟨_, rfl⟩
          have Htbs := Lib.hid (show w29.heap.size ≤ tb by rw [← htb]; exact HP.out.size)
          rw [htb] at hX
          try simp only [htb]
          generalize w29.alloc (.cells #[.int .u64 5, .int .u64 1, .slice ta tn tc, .int .u64 5, .int .u64 2, .slice ub un uc] 43) = w30 at *
          have HTb := Lib.hid hX
          clear HP
          have HP := Lib.hid hbX
          clear hX hbX htb
          have hbx := HP.out
          have NHAb := Lib.hid (HAb.out.on hbx)
          have NHBb := Lib.hid (HBb.out.on hbx)
          have NHCb := Lib.hid (HCb.out.on hbx)
          have NHDb := Lib.hid (HDb.out.on hbx)
          have NHEb := Lib.hid (HEb.out.on hbx)
          have NHMb := Lib.hid (HMb.out.on hbx)
          have NHT1 := Lib.hid (HT1.out.on hbx)
          have NHT2 := Lib.hid (HT2.out.on hbx)
          have NHB := Lib.hid (HB.out.trans (hbx.mono HB.out.size))
          clear hbx HB HAb HBb HCb HDb HEb HMb HT1 HT2
          have HAb := NHAb
          have HBb := NHBb
          have HCb := NHCb
          have HDb := NHDb
          have HEb := NHEb
          have HMb := NHMb
          have HT1 := NHT1
          have HT2 := NHT2
          have HB := NHB
          clear NHB NHAb NHBb NHCb NHDb NHEb NHMb NHT1 NHT2
          clear HP
          clear Htbs
          have HP := Lib.hid (Below.refl w30.heap.size w30)
          clear HP
          go_upto_region 37 with ((with_reducible refine wpList_buildM1 rfl _ rfl (⟨5, 0, 5, 0, [], [], [], false, 0, 0, 0, false, [], none, 0, 0, 0, 0⟩ : Md) ?_ ?_); rfl)
          have HP := Lib.hid (Below.refl w30.heap.size w30)
          have hX : Blk (w30.alloc (.cells (mdsCells [(⟨5, 0, 5, 0, [], [], [], false, 0, 0, 0, false, [], none, 0, 0, 0, 0⟩ : Md)]).toArray 40)) w30.heap.size (mdsCells [(⟨5, 0, 5, 0, [], [], [], false, 0, 0, 0, false, [], none, 0, 0, 0, 0⟩ : Md)]) 40 := Blk.new w30 (mdsCells [(⟨5, 0, 5, 0, [], [], [], false, 0, 0, 0, false, [], none, 0, 0, 0, 0⟩ : Md)]) 40
          have hbX := HP.out.alloc HP.out.size (.cells (mdsCells [(⟨5, 0, 5, 0, [], [], [], false, 0, 0, 0, false, [], none, 0, 0, 0, 0⟩ : Md)]).toArray 40)
          obtain ⟨kb, hkb⟩ : ∃ x, w30.heap.size = x := ⟨_, rfl⟩
          have Hkbs := Lib.hid (show w30.heap.size ≤ kb by rw [← hkb]; exact HP.out.size)
          rw [hkb] at hX
          try simp only [hkb]
          generalize w30.alloc (.cells (mdsCells [(⟨5, 0, 5, 0, [], [], [], false, 0, 0, 0, false, [], none, 0, 0, 0, 0⟩ : Md)]).toArray 40) = w31 at *
          have HKb := Lib.hid hX
          clear HP
          have HP := Lib.hid hbX
          clear hX hbX hkb
          have hbx := HP.out
          have NHAb := Lib.hid (HAb.out.on hbx)
          have NHBb := Lib.hid (HBb.out.on hbx)
          have NHCb := Lib.hid (HCb.out.on hbx)
          have NHDb := Lib.hid (HDb.out.on hbx)
          have NHEb := Lib.hid (HEb.out.on hbx)
          have NHMb := Lib.hid (HMb.out.on hbx)
          have NHT1 := Lib.hid (HT1.out.on hbx)
          have NHT2 := Lib.hid (HT2.out.on hbx)
          have NHTb := Lib.hid (HTb.out.on hbx)
          have NHB := Lib.hid (HB.out.trans (hbx.mono HB.out.size))
          clear hbx HB HAb HBb HCb HDb HEb HMb HT1 HT2 HTb
          have HAb := NHAb
          have HBb := NHBb
          have HCb := NHCb
          have HDb := NHDb
          have HEb := NHEb
          have HMb := NHMb
          have HT1 := NHT1
          have HT2 := NHT2
          have HTb := NHTb
          have HB := NHB
          clear NHB NHAb NHBb NHCb NHDb NHEb NHMb NHT1 NHT2 NHTb
          clear HP
          clear Hkbs
          go_upto_region 38 with fail
          have hb : Below w31.heap.size w31 ((w31.alloc (.cells #[.string ⟨#[97]⟩, .int .u64 2, .bool true, .string ⟨#[]⟩] 49)).alloc (.cells #[.int .u64 6, .int .u64 2, .slice (some ⟨w31.heap.size, 0, none⟩) 1 1] 43)) := ((Below.refl _ _).alloc (Nat.le_refl _) _).alloc (by simp) _
          have hR : Blk ((w31.alloc (.cells #[.string ⟨#[97]⟩, .int .u64 2, .bool true, .string ⟨#[]⟩] 49)).alloc (.cells #[.int .u64 6, .int .u64 2, .slice (some ⟨w31.heap.size, 0, none⟩) 1 1] 43)) w31.heap.size (recsCells [⟨[97], 2, true, []⟩]) 49 := (Blk.new w31 (recsCells [⟨[97], 2, true, []⟩]) _).alloc _
          have hG : Blk ((w31.alloc (.cells #[.string ⟨#[97]⟩, .int .u64 2, .bool true, .string ⟨#[]⟩] 49)).alloc (.cells #[.int .u64 6, .int .u64 2, .slice (some ⟨w31.heap.size, 0, none⟩) 1 1] 43)) (w31.heap.size + 1) (entCells ⟨6, 2, some ⟨w31.heap.size, 0, none⟩, 1, 1⟩) 43 := by
            have := Blk.new (w31.alloc (.cells #[.string ⟨#[97]⟩, .int .u64 2, .bool true, .string ⟨#[]⟩] 49)) (entCells ⟨6, 2, some ⟨w31.heap.size, 0, none⟩, 1, 1⟩) 43
            rw [World.size_alloc] at this
            exact this
          have hGe : EntIs ((w31.alloc (.cells #[.string ⟨#[97]⟩, .int .u64 2, .bool true, .string ⟨#[]⟩] 49)).alloc (.cells #[.int .u64 6, .int .u64 2, .slice (some ⟨w31.heap.size, 0, none⟩) 1 1] 43)) ⟨6, 2, some ⟨w31.heap.size, 0, none⟩, 1, 1⟩ ⟨6, 2, [⟨[97], 2, true, []⟩]⟩ := ⟨rfl, rfl, rfl, recsAt_of (Q := [⟨[97], 2, true, []⟩]) hR 1 rfl (by omega), by decide, by decide, by simp [Rec.ok, maxLen]⟩
          obtain ⟨rb, hrb⟩ : ∃ x, w31.heap.size = x := ⟨_, rfl⟩
          obtain ⟨gb, hgb⟩ : ∃ x, rb + 1 = x := ⟨_, rfl⟩
          clear hR
          rw [hrb] at hG hGe hb
          try simp only [hrb]
          rw [hgb] at hG
          try simp only [hgb]
          generalize ((w31.alloc (.cells #[.string ⟨#[97]⟩, .int .u64 2, .bool true, .string ⟨#[]⟩] 49)).alloc (.cells #[.int .u64 6, .int .u64 2, .slice (some ⟨rb, 0, none⟩) 1 1] 43)) = w32 at *
          rw [← hrb] at hb
          clear hrb hgb
          have hbx := hb
          have NHAb := Lib.hid (HAb.out.on hbx)
          have NHBb := Lib.hid (HBb.out.on hbx)
          have NHCb := Lib.hid (HCb.out.on hbx)
          have NHDb := Lib.hid (HDb.out.on hbx)
          have NHEb := Lib.hid (HEb.out.on hbx)
          have NHMb := Lib.hid (HMb.out.on hbx)
          have NHT1 := Lib.hid (HT1.out.on hbx)
          have NHT2 := Lib.hid (HT2.out.on hbx)
          have NHTb := Lib.hid (HTb.out.on hbx)
          have NHKb := Lib.hid (HKb.out.on hbx)
          have NHB := Lib.hid (HB.out.trans (hbx.mono HB.out.size))
          clear hbx HB HAb HBb HCb HDb HEb HMb HT1 HT2 HTb HKb
          have HAb := NHAb
          have HBb := NHBb
          have HCb := NHCb
          have HDb := NHDb
          have HEb := NHEb
          have HMb := NHMb
          have HT1 := NHT1
          have HT2 := NHT2
          have HTb := NHTb
          have HKb := NHKb
          have HB := NHB
          clear NHB NHAb NHBb NHCb NHDb NHEb NHMb NHT1 NHT2 NHTb NHKb
          clear hb
          have HG := Lib.hid hG
          have HGe := Lib.hid hGe
          clear hG hGe
          have HS1 := Lib.hid (fun w' => HS0.out none 0 0 w')
          go_wp2_with fail
          refine (HS1.out _).mono ?_
          rintro e w33 ⟨rfl, hb⟩
          have hbx := hb
          have NHAb := Lib.hid (HAb.out.on hbx)
          have NHBb := Lib.hid (HBb.out.on hbx)
          have NHCb := Lib.hid (HCb.out.on hbx)
          have NHDb := Lib.hid (HDb.out.on hbx)
          have NHEb := Lib.hid (HEb.out.on hbx)
          have NHMb := Lib.hid (HMb.out.on hbx)
          have NHT1 := Lib.hid (HT1.out.on hbx)
          have NHT2 := Lib.hid (HT2.out.on hbx)
          have NHTb := Lib.hid (HTb.out.on hbx)
          have NHKb := Lib.hid (HKb.out.on hbx)
          have NHG := Lib.hid (HG.out.on hbx)
          have NHGe := Lib.hid (HGe.out.on hbx)
          have NHB := Lib.hid (HB.out.trans (hbx.mono HB.out.size))
          clear hbx HB HAb HBb HCb HDb HEb HMb HT1 HT2 HTb HKb HG HGe
          have HAb := NHAb
          have HBb := NHBb
          have HCb := NHCb
          have HDb := NHDb
          have HEb := NHEb
          have HMb := NHMb
          have HT1 := NHT1
          have HT2 := NHT2
          have HTb := NHTb
          have HKb := NHKb
          have HG := NHG
          have HGe := NHGe
          have HB := NHB
          clear NHB NHAb NHBb NHCb NHDb NHEb NHMb NHT1 NHT2 NHTb NHKb NHG NHGe
          clear hb
          clear HS1
          have HP := Lib.hid (Below.refl w33.heap.size w33)
          go_upto_region 39 with ((with_reducible refine wpList_storeS rfl _ _ rfl _ (seen28 none 0 0) ?_ ?_ ?_); rfl; rfl)
          have hX : Blk (w33.alloc (.cells (snCells (seen28 none 0 0)).toArray 47)) w33.heap.size (snCells (seen28 none 0 0)) 47 := Blk.new w33 (snCells (seen28 none 0 0)) 47
          have hbX := HP.out.alloc HP.out.size (.cells (snCells (seen28 none 0 0)).toArray 47)
          obtain ⟨sb, hsb⟩ : ∃ x, w33.heap.size = x := ⟨_, rfl⟩
          have Hsbs := Lib.hid (show w33.heap.size ≤ sb by rw [← hsb]; exact HP.out.size)
          rw [hsb] at hX
          try simp only [hsb]
          generalize w33.alloc (.cells (snCells (seen28 none 0 0)).toArray 47) = w34 at *
          have HSb := Lib.hid hX
          clear HP
          have HP := Lib.hid hbX
          clear hX hbX hsb
          have f0 := HSb.out.free 8
          have g0 : w34.cell? ⟨sb, 8, none⟩ = some (.int .u64 1) := by rw [HSb.out.cell]; rfl
          have hX0 := HSb.out.set 8 (.int .u64 2)
          have hX : Blk (w34.setCell ⟨sb, 8, none⟩ (.int .u64 2)) sb (snCells (⟨true, true, false, true, 0, 3, 3, 2, 2, none, 0, 0, none, 0, 0, 0⟩ : Sn)) 47 := hX0
          have hm : Mod [sb] w34 (w34.setCell ⟨sb, 8, none⟩ (.int .u64 2)) := (Mod.refl _ _).setCell _ _ (.inl (by simp))
          have hbX := HP.out.trans (hm.below (fun x hx => by simp only [List.mem_singleton] at hx; have := Hsbs.out; omega) HP.out.size)
          clear HSb HP hX0 hm
          have HSb := Lib.hid hX
          have HP := Lib.hid hbX
          clear hX hbX
          go_upto_region 40 with fail
          clear f0 g0
          generalize (w34.setCell ⟨sb, 8, none⟩ (.int .u64 2)) = w35 at *
          have hbx := HP.out
          have NHAb := Lib.hid (HAb.out.on hbx)
          have NHBb := Lib.hid (HBb.out.on hbx)
          have NHCb := Lib.hid (HCb.out.on hbx)
          have NHDb := Lib.hid (HDb.out.on hbx)
          have NHEb := Lib.hid (HEb.out.on hbx)
          have NHMb := Lib.hid (HMb.out.on hbx)
          have NHT1 := Lib.hid (HT1.out.on hbx)
          have NHT2 := Lib.hid (HT2.out.on hbx)
          have NHTb := Lib.hid (HTb.out.on hbx)
          have NHKb := Lib.hid (HKb.out.on hbx)
          have NHG := Lib.hid (HG.out.on hbx)
          have NHGe := Lib.hid (HGe.out.on hbx)
          have NHB := Lib.hid (HB.out.trans (hbx.mono HB.out.size))
          clear hbx HB HAb HBb HCb HDb HEb HMb HT1 HT2 HTb HKb HG HGe
          have HAb := NHAb
          have HBb := NHBb
          have HCb := NHCb
          have HDb := NHDb
          have HEb := NHEb
          have HMb := NHMb
          have HT1 := NHT1
          have HT2 := NHT2
          have HTb := NHTb
          have HKb := NHKb
          have HG := NHG
          have HGe := NHGe
          have HB := NHB
          clear NHB NHAb NHBb NHCb NHDb NHEb NHMb NHT1 NHT2 NHTb NHKb NHG NHGe
          clear HP
          clear Hsbs
          have hbR := (Below.refl w35.heap.size w35).alloc (Nat.le_refl _) (.cells #[.string ⟨#[98]⟩, .int .u64 9, .bool false, .string ⟨#[]⟩, .string ⟨#[97]⟩, .int .u64 9, .bool false, .string ⟨#[]⟩] 49)
          have hRr : Blk (w35.alloc (.cells #[.string ⟨#[98]⟩, .int .u64 9, .bool false, .string ⟨#[]⟩, .string ⟨#[97]⟩, .int .u64 9, .bool false, .string ⟨#[]⟩] 49)) w35.heap.size (recsCells [⟨[98], 9, false, []⟩, ⟨[97], 9, false, []⟩]) 49 := Blk.new w35 (recsCells [⟨[98], 9, false, []⟩, ⟨[97], 9, false, []⟩]) 49
          have HK := Lib.hid (HS0.out (some ⟨w35.heap.size, 0, none⟩) 2 2 (w35.alloc (.cells #[.string ⟨#[98]⟩, .int .u64 9, .bool false, .string ⟨#[]⟩, .string ⟨#[97]⟩, .int .u64 9, .bool false, .string ⟨#[]⟩] 49)))
          have HRr := Lib.hid hRr
          have HbR := Lib.hid hbR
          clear hbR hRr
          go_wp2_with fail
          refine HK.out.mono ?_
          rintro e w36 ⟨rfl, hb⟩
          have hNb := HRr.out.on hb
          have hb2 := HbR.out.trans (hb.mono HbR.out.size)
          clear hb HK HRr HbR
          obtain ⟨nb, hnb⟩ : ∃ x, w35.heap.size = x := ⟨_, rfl⟩
          rw [hnb] at hNb
          try simp only [hnb]
          clear hnb
          have hbx := hb2
          have NHAb := Lib.hid (HAb.out.on hbx)
          have NHBb := Lib.hid (HBb.out.on hbx)
          have NHCb := Lib.hid (HCb.out.on hbx)
          have NHDb := Lib.hid (HDb.out.on hbx)
          have NHEb := Lib.hid (HEb.out.on hbx)
          have NHMb := Lib.hid (HMb.out.on hbx)
          have NHT1 := Lib.hid (HT1.out.on hbx)
          have NHT2 := Lib.hid (HT2.out.on hbx)
          have NHTb := Lib.hid (HTb.out.on hbx)
          have NHKb := Lib.hid (HKb.out.on hbx)
          have NHG := Lib.hid (HG.out.on hbx)
          have NHGe := Lib.hid (HGe.out.on hbx)
          have NHSb := Lib.hid (HSb.out.on hbx)
          have NHB := Lib.hid (HB.out.trans (hbx.mono HB.out.size))
          clear hbx HB HAb HBb HCb HDb HEb HMb HT1 HT2 HTb HKb HG HGe HSb
          have HAb := NHAb
          have HBb := NHBb
          have HCb := NHCb
          have HDb := NHDb
          have HEb := NHEb
          have HMb := NHMb
          have HT1 := NHT1
          have HT2 := NHT2
          have HTb := NHTb
          have HKb := NHKb
          have HG := NHG
          have HGe := NHGe
          have HSb := NHSb
          have HB := NHB
          clear NHB NHAb NHBb NHCb NHDb NHEb NHMb NHT1 NHT2 NHTb NHKb NHG NHGe NHSb
          clear hb2
          have HNb := Lib.hid hNb
          clear hNb
          have HP := Lib.hid (Below.refl w36.heap.size w36)
          go_upto_region 41 with ((with_reducible refine wpList_storeS rfl _ _ rfl _ (seen28 (some ⟨nb, 0, none⟩) 2 2) ?_ ?_ ?_); rfl; rfl)
          have hX : Blk (w36.alloc (.cells (snCells (seen28 (some ⟨nb, 0, none⟩) 2 2)).toArray 47)) w36.heap.size (snCells (seen28 (some ⟨nb, 0, none⟩) 2 2)) 47 := Blk.new w36 (snCells (seen28 (some ⟨nb, 0, none⟩) 2 2)) 47
          have hbX := HP.out.alloc HP.out.size (.cells (snCells (seen28 (some ⟨nb, 0, none⟩) 2 2)).toArray 47)
          obtain ⟨tt, htt⟩ : ∃ x, w36.heap.size = x := ⟨_, rfl⟩
          have Htts := Lib.hid (show w36.heap.size ≤ tt by rw [← htt]; exact HP.out.size)
          rw [htt] at hX
          try simp only [htt]
          generalize w36.alloc (.cells (snCells (seen28 (some ⟨nb, 0, none⟩) 2 2)).toArray 47) = w37 at *
          have HTt := Lib.hid hX
          clear HP
          have HP := Lib.hid hbX
          clear hX hbX htt
          have hbx := HP.out
          have NHAb := Lib.hid (HAb.out.on hbx)
          have NHBb := Lib.hid (HBb.out.on hbx)
          have NHCb := Lib.hid (HCb.out.on hbx)
          have NHDb := Lib.hid (HDb.out.on hbx)
          have NHEb := Lib.hid (HEb.out.on hbx)
          have NHMb := Lib.hid (HMb.out.on hbx)
          have NHT1 := Lib.hid (HT1.out.on hbx)
          have NHT2 := Lib.hid (HT2.out.on hbx)
          have NHTb := Lib.hid (HTb.out.on hbx)
          have NHKb := Lib.hid (HKb.out.on hbx)
          have NHG := Lib.hid (HG.out.on hbx)
          have NHGe := Lib.hid (HGe.out.on hbx)
          have NHSb := Lib.hid (HSb.out.on hbx)
          have NHNb := Lib.hid (HNb.out.on hbx)
          have NHB := Lib.hid (HB.out.trans (hbx.mono HB.out.size))
          clear hbx HB HAb HBb HCb HDb HEb HMb HT1 HT2 HTb HKb HG HGe HSb HNb
          have HAb := NHAb
          have HBb := NHBb
          have HCb := NHCb
          have HDb := NHDb
          have HEb := NHEb
          have HMb := NHMb
          have HT1 := NHT1
          have HT2 := NHT2
          have HTb := NHTb
          have HKb := NHKb
          have HG := NHG
          have HGe := NHGe
          have HSb := NHSb
          have HNb := NHNb
          have HB := NHB
          clear NHB NHAb NHBb NHCb NHDb NHEb NHMb NHT1 NHT2 NHTb NHKb NHG NHGe NHSb NHNb
          clear HP
          clear Htts
          have LB := Lib.hid (show ∀ w', Below w37.heap.size w37 w' → (Instr.loadAt 47 (.pointer (some ⟨bb, 0, none⟩))).run Tryz.prog w' = .ok (.agg (snCells (⟨true, true, true, false, 1, 2, 2, 2, 2, none, 0, 0, some ⟨ab, 0, none⟩, 2, 2, 400⟩ : Sn)).toArray) w' from fun w' hb => run_loadAt_mid (P := Tryz.prog) w' bb 0 47 (snCells (⟨true, true, true, false, 1, 2, 2, 2, 2, none, 0, 0, some ⟨ab, 0, none⟩, 2, 2, 400⟩ : Sn)) _ (fun j v hv => by rw [(HBb.out.on hb).cell, Nat.zero_add]; exact hv) Tryz.underlying47 rfl (info_seen _))
          have LC := Lib.hid (show ∀ w', Below w37.heap.size w37 w' → (Instr.loadAt 47 (.pointer (some ⟨cb, 0, none⟩))).run Tryz.prog w' = .ok (.agg (snCells (⟨false, true, true, false, 9, 2, 2, 2, 2, none, 0, 0, some ⟨ab, 0, none⟩, 2, 2, 400⟩ : Sn)).toArray) w' from fun w' hb => run_loadAt_mid (P := Tryz.prog) w' cb 0 47 (snCells (⟨false, true, true, false, 9, 2, 2, 2, 2, none, 0, 0, some ⟨ab, 0, none⟩, 2, 2, 400⟩ : Sn)) _ (fun j v hv => by rw [(HCb.out.on hb).cell, Nat.zero_add]; exact hv) Tryz.underlying47 rfl (info_seen _))
          have LD := Lib.hid (show ∀ w', Below w37.heap.size w37 w' → (Instr.loadAt 47 (.pointer (some ⟨db, 0, none⟩))).run Tryz.prog w' = .ok (.agg (snCells (⟨false, true, true, false, 9, 2, 2, 2, 9, none, 0, 0, some ⟨ab, 0, none⟩, 2, 2, 400⟩ : Sn)).toArray) w' from fun w' hb => run_loadAt_mid (P := Tryz.prog) w' db 0 47 (snCells (⟨false, true, true, false, 9, 2, 2, 2, 9, none, 0, 0, some ⟨ab, 0, none⟩, 2, 2, 400⟩ : Sn)) _ (fun j v hv => by rw [(HDb.out.on hb).cell, Nat.zero_add]; exact hv) Tryz.underlying47 rfl (info_seen _))
          have LE := Lib.hid (show ∀ w', Below w37.heap.size w37 w' → (Instr.loadAt 47 (.pointer (some ⟨eb, 0, none⟩))).run Tryz.prog w' = .ok (.agg (snCells (⟨true, true, true, false, 1, 2, 2, 2, 2, none, 0, 0, none, 0, 0, 400⟩ : Sn)).toArray) w' from fun w' hb => run_loadAt_mid (P := Tryz.prog) w' eb 0 47 (snCells (⟨true, true, true, false, 1, 2, 2, 2, 2, none, 0, 0, none, 0, 0, 400⟩ : Sn)) _ (fun j v hv => by rw [(HEb.out.on hb).cell, Nat.zero_add]; exact hv) Tryz.underlying47 rfl (info_seen _))
          have LS := Lib.hid (show ∀ w', Below w37.heap.size w37 w' → (Instr.loadAt 47 (.pointer (some ⟨sb, 0, none⟩))).run Tryz.prog w' = .ok (.agg (snCells (⟨true, true, false, true, 0, 3, 3, 2, 2, none, 0, 0, none, 0, 0, 0⟩ : Sn)).toArray) w' from fun w' hb => run_loadAt_mid (P := Tryz.prog) w' sb 0 47 (snCells (⟨true, true, false, true, 0, 3, 3, 2, 2, none, 0, 0, none, 0, 0, 0⟩ : Sn)) _ (fun j v hv => by rw [(HSb.out.on hb).cell, Nat.zero_add]; exact hv) Tryz.underlying47 rfl (info_seen _))
          have LT := Lib.hid (show ∀ w', Below w37.heap.size w37 w' → (Instr.loadAt 47 (.pointer (some ⟨tt, 0, none⟩))).run Tryz.prog w' = .ok (.agg (snCells (seen28 (some ⟨nb, 0, none⟩) 2 2)).toArray) w' from fun w' hb => run_loadAt_mid (P := Tryz.prog) w' tt 0 47 (snCells (seen28 (some ⟨nb, 0, none⟩) 2 2)) _ (fun j v hv => by rw [(HTt.out.on hb).cell, Nat.zero_add]; exact hv) Tryz.underlying47 rfl (info_seen _))
          have HFg := Lib.hid (show ∀ w', Below w37.heap.size w37 w' → (w'.cell? ⟨gb, 0, none⟩ = some (.int .u64 6) ∧ w'.cell? ⟨gb, 1, none⟩ = some (.int .u64 2) ∧ w'.cell? ⟨gb, 2, none⟩ = some (.slice (some ⟨rb, 0, none⟩) 1 1)) from fun w' hb => ⟨by rw [(HG.out.on hb).cell]; rfl, by rw [(HG.out.on hb).cell]; rfl, by rw [(HG.out.on hb).cell]; rfl⟩)
          refine wp_region_plan (.one 0 (.one 1 (.one 2 (.one 3 (.take 4 (.one 5 (.one 6 (.one 7 (.take 8 (.one 9 (.one 10 (.one 11 (.take 12 (.one 13 (.one 14 (.one 15 (.one 16 (.take 17 (.one 18 (.one 19 (.one 20 (.one 21 (.take 22 (.one 23 (.one 24 (.one 25 (.one 26 (.one 27 (.take 28 (.one 29 (.one 30 (.one 31 (.one 32 (.one 33 (.take 34 (.take 36 (.one 35 (.one 37 (.one 38 (.one 39 (.one 40 (.one 41 (.take 42 (.one 43 (.one 44 (.one 45 (.one 46 (.one 47 (.one 48 (.one 49 (.one 50 (.one 51 (.one 52 (.one 53 (.one 54 (.one 55 .done)))))))))))))))))))))))))))))))))))))))))))))))))))))))) (Below w37.heap.size w37) (by kernel_rfl) (by kernel_rfl) (by kernel_rfl) (fun c a d v w h => by cases d <;> exact h) (below_drew (Below.refl _ _)) ?_
          simp only [PlanI.fill, List.getD_cons_zero, List.getD_cons_succ]
          have hS : Below w37.heap.size w37 { w37 with drawn := w37.drawn + 1 } := below_drew (Below.refl _ _)
          generalize ({ w37 with drawn := w37.drawn + 1 } : World) = w38 at *
          refine plan_step (by rfl) (fun K hK => ?_)
          go_simp
          refine hK.out _ _ hS ?_
          clear hK K
          refine plan_step (by rfl) (fun K hK => ?_)
          go_simp
          refine (HWk.out _).mono ?_
          rintro e w39 ⟨rfl, hb⟩
          have hSn := hS.trans (hb.mono hS.size)
          refine hK.out _ _ hSn ?_
          clear hK K hS
          have hS := hSn
          clear hSn
          clear hb
          refine plan_step (by rfl) (fun K hK => ?_)
          go_simp
          refine hK.out _ _ hS ?_
          clear hK K
          refine plan_step (by rfl) (fun K hK => ?_)
          go_simp
          refine hK.out _ _ hS ?_
          clear hK K
          refine plan_take (by rfl) (fun w' hS => exec_load _ _ rfl _ rfl (LB.out w' hS)) ?_
          simp only [Act.put, List.setIfInBounds_toArray, List.set_cons_zero, List.set_cons_succ]
          have HA := Lib.hid (boundsK w39 (⟨true, true, true, false, 1, 2, 2, 2, 2, none, 0, 0, some ⟨ab, 0, none⟩, 2, 2, 400⟩ : Sn) [3, 4] (numsAt_of (HAb.out.on hS) 2 rfl (by omega)) rfl true (by kernel_rfl))
          refine plan_step (by rfl) (fun K hK => ?_)
          go_simp
          refine (HA.out).mono ?_
          rintro e w40 ⟨rfl, hb⟩
          have hSn := hS.trans (hb.mono hS.size)
          refine hK.out _ _ hSn ?_
          clear hK K hS
          have hS := hSn
          clear hSn
          clear hb HA
          refine plan_step (by rfl) (fun K hK => ?_)
          go_simp
          refine hK.out _ _ hS ?_
          clear hK K
          refine plan_step (by rfl) (fun K hK => ?_)
          go_simp
          refine hK.out _ _ hS ?_
          clear hK K
          refine plan_take (by rfl) (fun w' hS => exec_load _ _ rfl _ rfl (LC.out w' hS)) ?_
          simp only [Act.put, List.setIfInBounds_toArray, List.set_cons_zero, List.set_cons_succ]
          have HA := Lib.hid (boundsK w40 (⟨false, true, true, false, 9, 2, 2, 2, 2, none, 0, 0, some ⟨ab, 0, none⟩, 2, 2, 400⟩ : Sn) [3, 4] (numsAt_of (HAb.out.on hS) 2 rfl (by omega)) rfl true (by kernel_rfl))
          refine plan_step (by rfl) (fun K hK => ?_)
          go_simp
          refine (HA.out).mono ?_
          rintro e w41 ⟨rfl, hb⟩
          have hSn := hS.trans (hb.mono hS.size)
          refine hK.out _ _ hSn ?_
          clear hK K hS
          have hS := hSn
          clear hSn
          clear hb HA
          refine plan_step (by rfl) (fun K hK => ?_)
          go_simp
          refine hK.out _ _ hS ?_
          clear hK K
          refine plan_step (by rfl) (fun K hK => ?_)
          go_simp
          refine hK.out _ _ hS ?_
          clear hK K
          refine plan_take (by rfl) (fun w' hS => exec_load _ _ rfl _ rfl (LD.out w' hS)) ?_
          simp only [Act.put, List.setIfInBounds_toArray, List.set_cons_zero, List.set_cons_succ]
          have HA := Lib.hid (boundsK w41 (⟨false, true, true, false, 9, 2, 2, 2, 9, none, 0, 0, some ⟨ab, 0, none⟩, 2, 2, 400⟩ : Sn) [3, 4] (numsAt_of (HAb.out.on hS) 2 rfl (by omega)) rfl false (by kernel_rfl))
          refine plan_step (by rfl) (fun K hK => ?_)
          go_simp
          refine (HA.out).mono ?_
          rintro e w42 ⟨rfl, hb⟩
          have hSn := hS.trans (hb.mono hS.size)
          refine hK.out _ _ hSn ?_
          clear hK K hS
          have hS := hSn
          clear hSn
          clear hb HA
          refine plan_step (by rfl) (fun K hK => ?_)
          go_simp
          refine hK.out _ _ hS ?_
          clear hK K
          refine plan_step (by rfl) (fun K hK => ?_)
          go_simp
          refine hK.out _ _ hS ?_
          clear hK K
          refine plan_step (by rfl) (fun K hK => ?_)
          go_simp
          refine hK.out _ _ hS ?_
          clear hK K
          refine plan_take (by rfl) (fun w' hS => exec_load _ _ rfl _ rfl (LE.out w' hS)) ?_
          simp only [Act.put, List.setIfInBounds_toArray, List.set_cons_zero, List.set_cons_succ]
          refine plan_step (by rfl) (fun K hK => ?_)
          go_simp
          refine hK.out _ _ hS ?_
          clear hK K
          have hQm := madeAt_of (Q := [((mk28 1 1 1 [97] []), ([] : List KV))]) (HMb.out.on hS) (fun q hq => by
            simp only [List.mem_cons, List.not_mem_nil, or_false] at hq
            subst hq
            exact ⟨rfl, RowsAt.nil _ _, by decide, by decide⟩) 1 rfl (by omega)
          have HA := Lib.hid (quietK w42 (⟨true, true, true, false, 1, 2, 2, 2, 2, none, 0, 0, none, 0, 0, 400⟩ : Sn) [] rfl (some ⟨mb, 0, none⟩) 1 1 [((mk28 1 1 1 [97] []), ([] : List KV))] hQm (by omega) true (by kernel_rfl))
          clear hQm
          refine plan_step (by rfl) (fun K hK => ?_)
          go_simp
          refine (HA.out).mono ?_
          rintro e w43 ⟨rfl, hb⟩
          have hSn := hS.trans (hb.mono hS.size)
          refine hK.out _ _ hSn ?_
          clear hK K hS
          have hS := hSn
          clear hSn
          clear hb HA
          refine plan_step (by rfl) (fun K hK => ?_)
          go_simp
          refine hK.out _ _ hS ?_
          clear hK K
          refine plan_step (by rfl) (fun K hK => ?_)
          go_simp
          refine hK.out _ _ hS ?_
          clear hK K
          refine plan_take (by rfl) (fun w' hS => exec_load _ _ rfl _ rfl (LE.out w' hS)) ?_
          simp only [Act.put, List.setIfInBounds_toArray, List.set_cons_zero, List.set_cons_succ]
          refine plan_step (by rfl) (fun K hK => ?_)
          go_simp
          refine hK.out _ _ hS ?_
          clear hK K
          have hQm := madeAt_of (Q := [((⟨5, 0, 5, 0, [], [], [], false, 0, 0, 0, false, [], none, 0, 0, 0, 0⟩ : Md), ([] : List KV))]) (HKb.out.on hS) (fun q hq => by
            simp only [List.mem_cons, List.not_mem_nil, or_false] at hq
            subst hq
            exact ⟨rfl, RowsAt.nil _ _, by decide, by decide⟩) 1 rfl (by omega)
          have HA := Lib.hid (quietK w43 (⟨true, true, true, false, 1, 2, 2, 2, 2, none, 0, 0, none, 0, 0, 400⟩ : Sn) [] rfl (some ⟨kb, 0, none⟩) 1 1 [((⟨5, 0, 5, 0, [], [], [], false, 0, 0, 0, false, [], none, 0, 0, 0, 0⟩ : Md), ([] : List KV))] hQm (by omega) false (by kernel_rfl))
          clear hQm
          refine plan_step (by rfl) (fun K hK => ?_)
          go_simp
          refine (HA.out).mono ?_
          rintro e w44 ⟨rfl, hb⟩
          have hSn := hS.trans (hb.mono hS.size)
          refine hK.out _ _ hSn ?_
          clear hK K hS
          have hS := hSn
          clear hSn
          clear hb HA
          refine plan_step (by rfl) (fun K hK => ?_)
          go_simp
          refine hK.out _ _ hS ?_
          clear hK K
          refine plan_step (by rfl) (fun K hK => ?_)
          go_simp
          refine hK.out _ _ hS ?_
          clear hK K
          refine plan_step (by rfl) (fun K hK => ?_)
          go_simp
          refine hK.out _ _ hS ?_
          clear hK K
          refine plan_take (v := ?_) (by rfl) (fun w' hS => ?_) ?_
          rotate_left
          · go_simp
            with_reducible rfl
          simp only [Act.put, List.setIfInBounds_toArray, List.set_cons_zero, List.set_cons_succ]
          refine plan_step (by rfl) (fun K hK => ?_)
          go_simp
          refine hK.out _ _ hS ?_
          clear hK K
          have hQm := madeAt_of (Q := [((⟨5, 0, 5, 0, [], [], [], false, 0, 0, 0, false, [], none, 0, 0, 0, 0⟩ : Md), ([] : List KV))]) (HKb.out.on hS) (fun q hq => by
            simp only [List.mem_cons, List.not_mem_nil, or_false] at hq
            subst hq
            exact ⟨rfl, RowsAt.nil _ _, by decide, by decide⟩) 1 rfl (by omega)
          have hQe := entsAt_of (Q := [((⟨5, 1, ta, tn, tc⟩ : Ent), mkE28 5 1 [97] [120]), ((⟨5, 2, ub, un, uc⟩ : Ent), mkE28 5 2 [98] [121])]) (HTb.out.on hS) (fun q hq => by
            simp only [List.mem_cons, List.not_mem_nil, or_false] at hq
            rcases hq with rfl | rfl
            · exact HT1.out.on hS
            · exact HT2.out.on hS) 2 rfl (by omega)
          have HA := Lib.hid (keptK w44 (some ⟨kb, 0, none⟩) 1 1 [((⟨5, 0, 5, 0, [], [], [], false, 0, 0, 0, false, [], none, 0, 0, 0, 0⟩ : Md), ([] : List KV))] hQm (by omega) (some ⟨tb, 0, none⟩) 2 2 [((⟨5, 1, ta, tn, tc⟩ : Ent), mkE28 5 1 [97] [120]), ((⟨5, 2, ub, un, uc⟩ : Ent), mkE28 5 2 [98] [121])] hQe (by omega) (by rfl) 2 (by kernel_rfl))
          clear hQm hQe
          refine plan_step (by rfl) (fun K hK => ?_)
          go_simp
          refine (HA.out).mono ?_
          rintro e w45 ⟨rfl, hb⟩
          have hSn := hS.trans (hb.mono hS.size)
          refine hK.out _ _ hSn ?_
          clear hK K hS
          have hS := hSn
          clear hSn
          clear hb HA
          refine plan_step (by rfl) (fun K hK => ?_)
          go_simp
          refine hK.out _ _ hS ?_
          clear hK K
          refine plan_step (by rfl) (fun K hK => ?_)
          go_simp
          refine hK.out _ _ hS ?_
          clear hK K
          refine plan_step (by rfl) (fun K hK => ?_)
          go_simp
          refine hK.out _ _ hS ?_
          clear hK K
          refine plan_take (by rfl) (fun w' hS => exec_load _ _ rfl _ rfl (LS.out w' hS)) ?_
          simp only [Act.put, List.setIfInBounds_toArray, List.set_cons_zero, List.set_cons_succ]
          refine plan_take (v := ?_) (by rfl) (fun w' hS => ?_) ?_
          rotate_left
          · obtain ⟨k0, k1, k2⟩ := HFg.out w' hS
            go_simp
            with_reducible rfl
          simp only [Act.put, List.setIfInBounds_toArray, List.set_cons_zero, List.set_cons_succ]
          refine plan_step (by rfl) (fun K hK => ?_)
          go_simp
          refine (HE1.out _).mono ?_
          rintro e w46 ⟨va, vn, vc, rfl, he3, _, hb⟩
          have hSn := hS.trans (hb.mono hS.size)
          refine hK.out _ _ hSn ?_
          clear hK K hS
          have hS := hSn
          clear hSn
          clear hb
          refine plan_step (by rfl) (fun K hK => ?_)
          go_simp
          refine hK.out _ _ (hS.alloc hS.size _) ?_
          clear hK K
          have hbn := (Below.refl w46.heap.size w46).alloc (Nat.le_refl _) (.cells (entsCells [⟨5, 1, va, vn, vc⟩, ⟨6, 2, some ⟨rb, 0, none⟩, 1, 1⟩]).toArray 43)
          have hSn := hS.trans (hbn.mono hS.size)
          have hE : ∀ q ∈ ([((⟨5, 1, va, vn, vc⟩ : Ent), (mkE28 5 1 [97] [120] : Entry)), ((⟨6, 2, some ⟨rb, 0, none⟩, 1, 1⟩ : Ent), (⟨6, 2, [⟨[97], 2, true, []⟩]⟩ : Entry))] : List EZ), EntIs (w46.alloc (.cells (entsCells [⟨5, 1, va, vn, vc⟩, ⟨6, 2, some ⟨rb, 0, none⟩, 1, 1⟩]).toArray 43)) q.1 q.2 := fun q hq => by
            simp only [List.mem_cons, List.not_mem_nil, or_false] at hq
            rcases hq with rfl | rfl
            · exact (he3).on hbn
            · exact (HGe.out.on hS).on hbn
          have hQ := entsAt_of (Q := [((⟨5, 1, va, vn, vc⟩ : Ent), (mkE28 5 1 [97] [120] : Entry)), ((⟨6, 2, some ⟨rb, 0, none⟩, 1, 1⟩ : Ent), (⟨6, 2, [⟨[97], 2, true, []⟩]⟩ : Entry))]) (Blk.new w46 (entsCells [⟨5, 1, va, vn, vc⟩, ⟨6, 2, some ⟨rb, 0, none⟩, 1, 1⟩]) 43) hE 2 rfl (by omega)
          clear hE hS hbn
          have hS := hSn
          clear hSn
          have HA := Lib.hid (treeK (w46.alloc (.cells (entsCells [⟨5, 1, va, vn, vc⟩, ⟨6, 2, some ⟨rb, 0, none⟩, 1, 1⟩]).toArray 43)) (⟨true, true, false, true, 0, 3, 3, 2, 2, none, 0, 0, none, 0, 0, 0⟩ : Sn) [] (RowsAt.nil _ _) rfl (by show 0 ≤ 100000; omega) (by simp) (some ⟨w46.heap.size, 0, none⟩) 2 2 [((⟨5, 1, va, vn, vc⟩ : Ent), (mkE28 5 1 [97] [120] : Entry)), ((⟨6, 2, some ⟨rb, 0, none⟩, 1, 1⟩ : Ent), (⟨6, 2, [⟨[97], 2, true, []⟩]⟩ : Entry))] hQ (by omega) (by rfl) (-1) (by kernel_rfl))
          clear hQ
          refine plan_step (by rfl) (fun K hK => ?_)
          go_simp
          refine (HA.out).mono ?_
          rintro e w47 ⟨rfl, hb⟩
          have hSn := hS.trans (hb.mono hS.size)
          refine hK.out _ _ hSn ?_
          clear hK K hS
          have hS := hSn
          clear hSn
          clear hb HA
          refine plan_step (by rfl) (fun K hK => ?_)
          go_simp
          refine hK.out _ _ hS ?_
          clear hK K
          refine plan_step (by rfl) (fun K hK => ?_)
          go_simp
          refine hK.out _ _ hS ?_
          clear hK K
          refine plan_step (by rfl) (fun K hK => ?_)
          go_simp
          refine hK.out _ _ hS ?_
          clear hK K
          refine plan_take (by rfl) (fun w' hS => exec_load _ _ rfl _ rfl (LT.out w' hS)) ?_
          simp only [Act.put, List.setIfInBounds_toArray, List.set_cons_zero, List.set_cons_succ]
          have HA := Lib.hid (treeK w47 (seen28 (some ⟨nb, 0, none⟩) 2 2) [⟨[98], 9, false, []⟩, ⟨[97], 9, false, []⟩] (recsAt_of (HNb.out.on hS) 2 rfl (by omega)) rfl (by show 2 ≤ 100000; omega) (fun r hr => by simp only [List.mem_cons, List.not_mem_nil, or_false] at hr; rcases hr with rfl | rfl <;> exact ⟨by decide, by decide, by show 9 < 18446744073709551616; omega⟩) none 0 0 [] (EntsAt.nil _) (by omega) (by rfl) 1 (by kernel_rfl))
          refine plan_step (by rfl) (fun K hK => ?_)
          go_simp
          refine (HA.out).mono ?_
          rintro e w48 ⟨rfl, hb⟩
          have hSn := hS.trans (hb.mono hS.size)
          refine hK.out _ _ hSn ?_
          clear hK K hS
          have hS := hSn
          clear hSn
          clear hb HA
          refine plan_step (by rfl) (fun K hK => ?_)
          go_simp
          refine hK.out _ _ hS ?_
          clear hK K
          refine plan_step (by rfl) (fun K hK => ?_)
          go_simp
          refine hK.out _ _ hS ?_
          clear hK K
          refine plan_step (by rfl) (fun K hK => ?_)
          go_simp
          refine hK.out _ _ hS ?_
          clear hK K
          have HA := Lib.hid (keptK w48 none 0 0 [] (MadeAt.nil _) (by omega) none 0 0 [] (EntsAt.nil _) (by omega) (by rfl) (-1) (by kernel_rfl))
          refine plan_step (by rfl) (fun K hK => ?_)
          go_simp
          refine (HA.out).mono ?_
          rintro e w49 ⟨rfl, hb⟩
          have hSn := hS.trans (hb.mono hS.size)
          refine hK.out _ _ hSn ?_
          clear hK K hS
          have hS := hSn
          clear hSn
          clear hb HA
          refine plan_step (by rfl) (fun K hK => ?_)
          go_simp
          refine hK.out _ _ hS ?_
          clear hK K
          refine plan_step (by rfl) (fun K hK => ?_)
          go_simp
          refine hK.out _ _ hS ?_
          clear hK K
          refine plan_step (by rfl) (fun K hK => ?_)
          go_simp
          refine hK.out _ _ hS ?_
          clear hK K
          refine plan_step (by rfl) (fun K hK => ?_)
          go_simp
          refine (HS0.out none 0 0 _).mono ?_
          rintro e w50 ⟨rfl, hb⟩
          have hSn := hS.trans (hb.mono hS.size)
          refine hK.out _ _ hSn ?_
          clear hK K hS
          have hS := hSn
          clear hSn
          clear hb
          have HA := Lib.hid (treeK w50 (seen28 none 0 0) [] (RowsAt.nil _ _) rfl (by show 0 ≤ 100000; omega) (by simp) none 0 0 [] (EntsAt.nil _) (by omega) (by rfl) (-1) (by kernel_rfl))
          refine plan_step (by rfl) (fun K hK => ?_)
          go_simp
          refine (HA.out).mono ?_
          rintro e w51 ⟨rfl, hb⟩
          have hSn := hS.trans (hb.mono hS.size)
          refine hK.out _ _ hSn ?_
          clear hK K hS
          have hS := hSn
          clear hSn
          clear hb HA
          refine plan_step (by rfl) (fun K hK => ?_)
          go_simp
          refine hK.out _ _ hS ?_
          clear hK K
          refine plan_step (by rfl) (fun K hK => ?_)
          go_simp
          refine hK.out _ _ hS ?_
          clear hK K
          refine plan_step (by rfl) (fun K hK => ?_)
          go_simp
          refine hK.out _ _ hS ?_
          clear hK K
          refine plan_done ?_
          have hbx := hS
          have NHB := Lib.hid (HB.out.trans (hbx.mono HB.out.size))
          clear hbx HB
          have HB := NHB
          clear NHB
          clear hS HFg LB LC LD LE LS LT
          go_wp2_with fail
          go_ret
          exact ⟨by try rfl, HB.out⟩
end Go.Proofs.YtecknikehieioaaGreat
