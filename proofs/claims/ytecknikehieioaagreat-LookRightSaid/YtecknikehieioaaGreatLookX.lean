/-
  Texts folded into one: Plan, LookX.
-/
import Derived.Test.YtecknikehieioaaGreatSettleF
import Derived.Test.YtecknikehieioaaGreatLookC
import Derived.Test.YtecknikehieioaaGreatOrder
import Derived.Great.BuildSlice

/-! ### Plan -/
namespace Go.Proofs.YtecknikehieioaaGreat
open Go
set_option linter.unusedVariables false
set_option linter.unusedSimpArgs false
section
variable {P : Program} {ops : Array Oper} {md : Region.Mode} {S : World → Prop}
/-- An operation comes up: S stays, and what follows holds. -/
def stepP (P : Program) (ops : Array Oper) (Q : Exit → Act → World → Prop) (S : World → Prop) (o : Oper) (K : Act → World → Prop) (a : Act) (w : World) : Prop :=
  if Region.wanted o (yielded ops a.tmps) = true then Oper.wp P o a w (fun a' w' => S w' ∧ K a' w') Q else K (a.put o.dst undef) w
/-- A plan: an operation is taken; one alone may come up; one of two may. -/
inductive Plan where
  | done
  | take (i : Nat) (o : Oper) (r : Plan)
  | one (i : Nat) (o : Oper) (r : Plan)
  | two (i : Nat) (o : Oper) (r : Plan) (j : Nat) (p : Oper) (s : Plan)
/-- The walk along a plan. -/
def wpPlan (P : Program) (ops : Array Oper) (Q : Exit → Act → World → Prop) (S : World → Prop) : Plan → Act → World → Prop
  | .done, a, w => Q .normal a w
  | .take _ o r, a, w => ∃ v, YieldsIf P ops S o v a ∧ wpPlan P ops Q S r (a.put o.dst v) w
  | .one _ o r, a, w => stepP P ops Q S o (wpPlan P ops Q S r) a w
  | .two _ o r _ p s, a, w => stepP P ops Q S o (wpPlan P ops Q S r) a w ∧ stepP P ops Q S p (wpPlan P ops Q S s) a w
/-- The indices of a plan. -/
inductive PlanI where
  | done
  | take (i : Nat) (r : PlanI)
  | one (i : Nat) (r : PlanI)
  | two (i : Nat) (r : PlanI) (j : Nat) (s : PlanI)
def PlanI.fill (l : List Oper) : PlanI → Plan
  | .done => .done
  | .take i r => .take i (l.getD i default) (r.fill l)
  | .one i r => .one i (l.getD i default) (r.fill l)
  | .two i r j s => .two i (l.getD i default) (r.fill l) j (l.getD j default) (s.fill l)
def planOk (md : Region.Mode) (ops : Array Oper) : PlanI → Nat → Array Bool → Bool
  | .done, n, listed => (n == 0) && Region.ready md ops listed == []
  | .take i r, n, listed => Nat.blt i ops.size && Nat.blt 0 n && (Region.ready md ops listed).contains i && Region.free md ops listed i && planOk md ops r (n - 1) (listed.setIfInBounds i true)
  | .one i r, n, listed => Nat.blt i ops.size && Nat.blt 0 n && Region.ready md ops listed == [i] && planOk md ops r (n - 1) (listed.setIfInBounds i true)
  | .two i r j s, n, listed => Nat.blt i ops.size && Nat.blt j ops.size && Nat.blt 0 n && Region.ready md ops listed == [i, j] && planOk md ops r (n - 1) (listed.setIfInBounds i true) && planOk md ops s (n - 1) (listed.setIfInBounds j true)
theorem wpOp_of_stepP {Q : Exit → Act → World → Prop} {i : Nat} {o : Oper} (hi : ops[i]? = some o) {K K' : Act → World → Prop} {a : Act} {w : World} (hS : S w) (hK : ∀ a' w', S w' → K a' w' → K' a' w') (h : stepP P ops Q S o K a w) : wpOp P ops Q i K' a w := by
  refine wpOp_mono (K := fun a' w' => S w' ∧ K a' w') (fun a' w' h' => hK a' w' h'.1 h'.2) ?_
  unfold wpOp
  simp only [hi]
  unfold stepP at h
  split
  · rename_i hw; simp only [hw, if_true] at h; exact .inl h
  · rename_i hw; simp only [hw, Bool.false_eq_true, if_false] at h; exact ⟨hS, h⟩
theorem getD_of {l : List Oper} {i : Nat} (h : Nat.blt i l.toArray.size = true) : l.toArray[i]? = some (l.getD i default) := by
  have h' : i < l.length := by simpa [Nat.blt_eq] using h
  simp [List.getD, List.getElem?_eq_getElem h']
theorem wpAnyW_of_plan {l : List Oper} {Q : Exit → Act → World → Prop} (hsel : ∀ (j : Nat) (o : Oper) cs b, l.toArray[j]? = some o → o.op ≠ .select cs b) (hQ : ∀ c a d v w, Q (.panic c) (Act.put a d v) w → Q (.panic c) a w) :
    ∀ (pl : PlanI) (n : Nat) (listed : Array Bool) (a : Act) (w : World), S w → Closed md l.toArray listed → planOk md l.toArray pl n listed = true →
    wpPlan P l.toArray Q S (pl.fill l) a w → wpAnyW P md l.toArray Q S (fun _ => false) n listed a w
  | .done, n, listed, a, w, _, _, hok, h => by
    simp only [planOk, Bool.and_eq_true, beq_iff_eq] at hok
    obtain ⟨rfl, hok⟩ := hok
    exact ⟨hok, h⟩
  | .take i r, n, listed, a, w, hS, hc, hok, h => by
    simp only [planOk, Bool.and_eq_true] at hok
    obtain ⟨⟨⟨⟨hl, hn⟩, hr⟩, hf⟩, hok⟩ := hok
    obtain ⟨v, hy, h⟩ := h
    have hi := getD_of hl
    have hr' : i ∈ Region.ready md l.toArray listed := by simpa using hr
    obtain ⟨m, rfl⟩ : ∃ m, n = m + 1 := ⟨n - 1, by have : 0 < n := by simpa [Nat.blt_eq] using hn
                                                   omega⟩
    rw [Nat.add_sub_cancel] at hok
    exact wpAnyW_first (n := 0) hi hsel (fun c a w => hQ c a _ _ w) (fun j hj => by cases hj) _ listed a w hc (Region.free_spec hi hf) hr' hy hS
      (wpAnyW_of_plan hsel hQ r m _ _ w hS (hc.set hr') hok h)
  | .one i r, n, listed, a, w, hS, hc, hok, h => by
    simp only [planOk, Bool.and_eq_true, beq_iff_eq] at hok
    obtain ⟨⟨⟨hl, hn⟩, hr⟩, hok⟩ := hok
    have hi := getD_of hl
    have hr' : i ∈ Region.ready md l.toArray listed := by rw [hr]; simp
    obtain ⟨m, rfl⟩ : ∃ m, n = m + 1 := ⟨n - 1, by have : 0 < n := by simpa [Nat.blt_eq] using hn
                                                   omega⟩
    rw [Nat.add_sub_cancel] at hok
    refine ⟨fun h0 => (by rw [hr] at h0; cases h0), fun j hj => ?_⟩
    rw [hr] at hj
    cases List.mem_singleton.1 hj
    exact wpOp_of_stepP hi hS (fun a' w' hS' hK => ⟨.inr hS', wpAnyW_of_plan hsel hQ r m _ a' w' hS' (hc.set hr') hok hK⟩) h
  | .two i r j s, n, listed, a, w, hS, hc, hok, h => by
    simp only [planOk, Bool.and_eq_true, beq_iff_eq] at hok
    obtain ⟨⟨⟨⟨⟨hl, hl2⟩, hn⟩, hr⟩, hok⟩, hok2⟩ := hok
    have hi := getD_of hl
    have hj := getD_of hl2
    have hr' : i ∈ Region.ready md l.toArray listed := by rw [hr]; simp
    have hr2 : j ∈ Region.ready md l.toArray listed := by rw [hr]; simp
    obtain ⟨m, rfl⟩ : ∃ m, n = m + 1 := ⟨n - 1, by have : 0 < n := by simpa [Nat.blt_eq] using hn
                                                   omega⟩
    rw [Nat.add_sub_cancel] at hok hok2
    refine ⟨fun h0 => (by rw [hr] at h0; cases h0), fun k hk => ?_⟩
    rw [hr] at hk
    rcases List.mem_cons.1 hk with rfl | hk
    · exact wpOp_of_stepP hi hS (fun a' w' hS' hK => ⟨.inr hS', wpAnyW_of_plan hsel hQ r m _ a' w' hS' (hc.set hr') hok hK⟩) h.1
    · cases List.mem_singleton.1 hk
      exact wpOp_of_stepP hj hS (fun a' w' hS' hK => ⟨.inr hS', wpAnyW_of_plan hsel hQ s m _ a' w' hS' (hc.set hr2) hok2 hK⟩) h.2
theorem wp_region_plan (pl : PlanI) {l : List Oper} {Q : Exit → Act → World → Prop} (S : World → Prop) {id : Nat} {a : Act} {w : World} (hm : P.follows .mixedOrders = true) (hs : Region.noSelect l.toArray = true)
    (hok : planOk .any l.toArray pl l.length (Array.replicate l.length false) = true)
    (hQ : ∀ c a d v w, Q (.panic c) (Act.put a d v) w → Q (.panic c) a w) (hS : S { w with drawn := w.drawn + 1 })
    (h : wpPlan P l.toArray Q S (pl.fill l) a { w with drawn := w.drawn + 1 }) : (Code.region id l.toArray true).wp P Q a w := by
  refine wp_region_any hm (wpAny_of_W (S := S) (W := fun _ => false) _ _ _ _ ?_)
  have := wpAnyW_of_plan (P := P) (md := .any) (S := S) (Q := Q) (Region.noSelect_spec hs) hQ pl l.length (Array.replicate l.length false) a { w with drawn := w.drawn + 1 } hS (Closed.start _) hok h
  simpa using this
variable {Q : Exit → Act → World → Prop} {i j : Nat} {o p : Oper} {r s : Plan} {v : Value} {a : Act} {w : World}
theorem plan_take (hw : Region.wanted o (yielded ops a.tmps) = true) (hv : ∀ w, S w → (execOp a.eval o).run P w = .ok (.value v) w)
    (h : wpPlan P ops Q S r (a.put o.dst v) w) : wpPlan P ops Q S (.take i o r) a w := ⟨v, .inl ⟨hw, hv⟩, h⟩
theorem plan_untaken (hw : Region.wanted o (yielded ops a.tmps) = false) (h : wpPlan P ops Q S r (a.put o.dst undef) w) : wpPlan P ops Q S (.take i o r) a w := ⟨undef, .inr ⟨hw, rfl⟩, h⟩
theorem stepP_on {K : Act → World → Prop} (hw : Region.wanted o (yielded ops a.tmps) = true)
    (h : ∀ K' : Act → World → Prop, Kept (∀ a w, S w → K a w → K' a w) → Oper.wp P o a w K' Q) : stepP P ops Q S o K a w := by
  unfold stepP
  rw [if_pos hw]
  exact h _ (fun _ _ h1 h2 => ⟨h1, h2⟩)
theorem stepP_off {K : Act → World → Prop} (hw : Region.wanted o (yielded ops a.tmps) = false) (h : K (a.put o.dst undef) w) : stepP P ops Q S o K a w := by
  unfold stepP
  rw [if_neg (by simp [hw])]
  exact h
theorem plan_step (hw : Region.wanted o (yielded ops a.tmps) = true)
    (h : ∀ K : Act → World → Prop, Kept (∀ a w, S w → wpPlan P ops Q S r a w → K a w) → Oper.wp P o a w K Q) : wpPlan P ops Q S (.one i o r) a w := stepP_on hw h
theorem plan_not (hw : Region.wanted o (yielded ops a.tmps) = false) (h : wpPlan P ops Q S r (a.put o.dst undef) w) : wpPlan P ops Q S (.one i o r) a w := stepP_off hw h
theorem plan_two (h1 : stepP P ops Q S o (wpPlan P ops Q S r) a w) (h2 : stepP P ops Q S p (wpPlan P ops Q S s) a w) : wpPlan P ops Q S (.two i o r j p s) a w := ⟨h1, h2⟩
theorem plan_done (h : Q .normal a w) : wpPlan P ops Q S .done a w := h
end
end Go.Proofs.YtecknikehieioaaGreat

/-! ### LookX -/
namespace Go.Proofs.YtecknikehieioaaGreat
set_option linter.unusedVariables false
set_option linter.unusedSimpArgs false
open Go.RowKit Go.Maps

theorem results_made {fn : Func} {p : Tmp} (h : fn.results = #[.cell p 40]) (tmps : Array Value) {w : World} {b : Nat} {m : Md} (hp : tmps.getD p undef = .pointer (some ⟨b, 0, none⟩)) (hE : Blk w b (mdCells m) 40) :
    (results fn tmps).run Tryz.prog w = .ok (.agg (mdCells m).toArray) w :=
  results_cell_row h tmps w b 40 _ (0, 0) _ hp hE Tryz.underlying40 rfl (by kernel_rfl)
section
variable {ops : Array Oper} {Q : Exit → Act → World → Prop} {op : Oper} {rest : List Oper} {a : Act} {w : World}
/-- A call's cells, laid over a block of calls. -/
theorem wpList_storeB (hgd : op.guard = none) (x y : Operand) (ho : op.op = .store 40 x y) (g : Nat) (C : List Value) (m : Md) (hb : Blk w g C 40) (hC : C.length = 16) (hx : a.eval x = .pointer (some ⟨g, 0, none⟩)) (hy : a.eval y = .agg (mdCells m).toArray)
    (h : wpList Tryz.prog ops Q rest (a.put op.dst undef) (w.setRow g (mdCells m).toArray)) : wpList Tryz.prog ops Q (op :: rest) a w :=
  wpList_store_row hgd 40 x y ho g (mdCells m).toArray hx hy 40 C.toArray hb (by kernel_rfl) (by rw [List.size_toArray, hC]; rfl) (by simp [mdCells, Value.oneCell']) h
end
section
variable {ops : Array Oper} {Q : Exit → Act → World → Prop} {o : Oper} {rest : List Oper} {a : Act} {w : World}
theorem info_made0 : ∃ ie z, Tryz.prog.info? 40 = some ie ∧ ie.zero = some z ∧ ie.size = 16 ∧ z.cells = #[.int .u64 0, .int .i64 0, .int .i64 0, .int .u64 0, .string ⟨#[]⟩, .string ⟨#[]⟩, .string ⟨#[]⟩, .bool false, .int .u64 0, .int .i64 0, .int .i64 0, .bool false, .string ⟨#[]⟩, .slice none 0 0, .int .i64 0, .int .i64 0] := by
  have h : (Tryz.prog.info? 40).map (fun i => (i.zero, i.size)) = some (some (.agg #[.int .u64 0, .int .i64 0, .int .i64 0, .int .u64 0, .string ⟨#[]⟩, .string ⟨#[]⟩, .string ⟨#[]⟩, .bool false, .int .u64 0, .int .i64 0, .int .i64 0, .bool false, .string ⟨#[]⟩, .slice none 0 0, .int .i64 0, .int .i64 0]), 16) := by kernel_rfl
  obtain ⟨i, hi, hzz⟩ := Option.map_eq_some_iff.1 h
  simp only [Prod.mk.injEq] at hzz
  exact ⟨i, _, hi, hzz.1, hzz.2, rfl⟩
/-- An operation that is wanted, without its guard. -/
theorem wpList_free (hw : Region.wanted o (yielded ops a.tmps) = true) (h : wpList Tryz.prog ops Q ({ o with guard := none } :: rest) a w) : wpList Tryz.prog ops Q (o :: rest) a w := by
  unfold wpList at h ⊢
  rw [if_pos hw]
  rw [if_pos (by simp [Region.wanted])] at h
  cases o
  exact h
theorem exec_load (ty : TypeId) (x : Operand) (ho : o.op = .load ty x) (p : Value) (hx : a.eval x = p) {v : Value} (hr : (Instr.loadAt ty p).run Tryz.prog w = .ok v w) : (execOp a.eval o).run Tryz.prog w = .ok (.value v) w := by
  unfold execOp
  simp only [ho, hx, Sem.run_bind, hr, Result.andThen_ok, Sem.run_pure]
theorem wp_buildM1 {K : Act → World → Prop} (x0 : Operand) (ho : o.op = .buildSlice 22 1 #[(0, x0)]) (m0 : Md)
    (h0 : a.eval x0 = .agg (mdCells m0).toArray)
    (h : K (a.put o.dst (.slice (some ⟨w.heap.size, 0, none⟩) 1 1)) (w.alloc (.cells (mdsCells [m0]).toArray 40))) : Oper.wp Tryz.prog o a w K Q := by
  obtain ⟨ie, z, hie, hz, hs, hzc⟩ := info_made0
  refine wp_buildSlice 22 40 1 _ ho (mdsCells [m0]).toArray ie z Tryz.underlying22 hie hz (by rw [hs]; decide) (by rw [hs]; decide) ?_ h
  rw [hs, hzc]
  have e : (Array.map (fun x : Nat × Operand => (x.1, a.eval x.2)) #[(0, x0)]).toList = [(0, .agg (mdCells m0).toArray)] := by
    simp [h0]
  refine Eq.trans (congrArg _ e) ?_
  kernel_rfl
theorem wpList_buildM1 (hg : o.guard = none) (x0 : Operand) (ho : o.op = .buildSlice 22 1 #[(0, x0)]) (m0 : Md)
    (h0 : a.eval x0 = .agg (mdCells m0).toArray)
    (h : wpList Tryz.prog ops Q rest (a.put o.dst (.slice (some ⟨w.heap.size, 0, none⟩) 1 1)) (w.alloc (.cells (mdsCells [m0]).toArray 40))) : wpList Tryz.prog ops Q (o :: rest) a w :=
  wpList_plain hg fun _ hK => wp_buildM1 x0 ho m0 h0 (hK _ _ h)
theorem wp_buildM2 {K : Act → World → Prop} (x0 x1 : Operand) (ho : o.op = .buildSlice 22 2 #[(0, x0), (1, x1)]) (m0 m1 : Md)
    (h0 : a.eval x0 = .agg (mdCells m0).toArray) (h1 : a.eval x1 = .agg (mdCells m1).toArray)
    (h : K (a.put o.dst (.slice (some ⟨w.heap.size, 0, none⟩) 2 2)) (w.alloc (.cells (mdsCells [m0, m1]).toArray 40))) : Oper.wp Tryz.prog o a w K Q := by
  obtain ⟨ie, z, hie, hz, hs, hzc⟩ := info_made0
  refine wp_buildSlice 22 40 2 _ ho (mdsCells [m0, m1]).toArray ie z Tryz.underlying22 hie hz (by rw [hs]; decide) (by rw [hs]; decide) ?_ h
  rw [hs, hzc]
  have e : (Array.map (fun x : Nat × Operand => (x.1, a.eval x.2)) #[(0, x0), (1, x1)]).toList = [(0, .agg (mdCells m0).toArray), (1, .agg (mdCells m1).toArray)] := by
    simp [h0, h1]
  refine Eq.trans (congrArg _ e) ?_
  kernel_rfl
theorem wpList_buildM2 (hg : o.guard = none) (x0 x1 : Operand) (ho : o.op = .buildSlice 22 2 #[(0, x0), (1, x1)]) (m0 m1 : Md)
    (h0 : a.eval x0 = .agg (mdCells m0).toArray) (h1 : a.eval x1 = .agg (mdCells m1).toArray)
    (h : wpList Tryz.prog ops Q rest (a.put o.dst (.slice (some ⟨w.heap.size, 0, none⟩) 2 2)) (w.alloc (.cells (mdsCells [m0, m1]).toArray 40))) : wpList Tryz.prog ops Q (o :: rest) a w :=
  wpList_plain hg fun _ hK => wp_buildM2 x0 x1 ho m0 m1 h0 h1 (hK _ _ h)
end
theorem results_entry {fn : Func} {p : Tmp} (h : fn.results = #[.cell p 43]) (tmps : Array Value) {w : World} {b : Nat} {e : Ent} (hp : tmps.getD p undef = .pointer (some ⟨b, 0, none⟩)) (hE : Blk w b (entCells e) 43) :
    (results fn tmps).run Tryz.prog w = .ok (.agg (entCells e).toArray) w :=
  results_cell_row h tmps w b 43 _ (0, 0) _ hp hE Tryz.underlying43 rfl (by kernel_rfl)
theorem EntsAt.nil (w : World) : EntsAt w none 0 0 [] := ⟨rfl, RowsAt.nil _ _, by simp⟩
theorem MadeAt.nil (w : World) : MadeAt w none 0 0 [] := ⟨rfl, RowsAt.nil _ _, by simp⟩
theorem madeAt_of {w : World} {xb : Nat} {Q : List MZ} (hX : Blk w xb (mdsCells (Q.map (·.1))) 40) (hQ : ∀ q ∈ Q, MdIs w q) (n : Nat) (hn : n = Q.length) (hm : n ≤ 1000000) : MadeAt w (some ⟨xb, 0, none⟩) n n Q :=
  ⟨hn.symm, RowsAt.of_blk (rest := []) (by rw [List.append_nil]; exact hX) (by rw [mds_length, List.length_map, hn]) (Nat.le_refl _) (by omega), hQ⟩
theorem entsAt_of {w : World} {xb : Nat} {Q : List EZ} (hX : Blk w xb (entsCells (Q.map (·.1))) 43) (hQ : ∀ q ∈ Q, EntIs w q.1 q.2) (n : Nat) (hn : n = Q.length) (hm : n ≤ 1000000) : EntsAt w (some ⟨xb, 0, none⟩) n n Q :=
  ⟨hn.symm, RowsAt.of_blk (rest := []) (by rw [List.append_nil]; exact hX) (by rw [ents_length, List.length_map, hn]) (Nat.le_refl _) (by omega), hQ⟩
theorem recsAt_of {w : World} {xb : Nat} {Q : List Rec} (hX : Blk w xb (recsCells Q) 49) (n : Nat) (hn : n = Q.length) (hm : n ≤ 1000000) : RowsAt w (some ⟨xb, 0, none⟩) n n 4 (recsCells Q) :=
  RowsAt.of_blk (rest := []) (by rw [List.append_nil]; exact hX) (by rw [recs_length, hn]) (Nat.le_refl _) (by omega)
theorem numsAt_of {w : World} {xb : Nat} {Q : List Nat} (hX : Blk w xb (u64s Q) 32) (n : Nat) (hn : n = Q.length) (hm : n ≤ 1000000) : RowsAt w (some ⟨xb, 0, none⟩) n n 1 (u64s Q) :=
  RowsAt.of_blk (rest := []) (by rw [List.append_nil]; exact hX) (by unfold u64s; rw [List.length_map, hn]; omega) (Nat.le_refl _) (by omega)
def smallQ (q : MZ) : Bool := decide (q.1.pn ≤ 1000) && (decide (0 ≤ q.1.kind) && decide (q.1.kind ≤ 10))
theorem smallQ_ok {zm : List MZ} (h : zm.all smallQ = true) : MadeOk zm := by
  have hq : ∀ q ∈ zm, q.1.pn ≤ 1000 ∧ 0 ≤ q.1.kind ∧ q.1.kind ≤ 10 := fun q hq => by
    have := List.all_eq_true.1 h q hq
    unfold smallQ at this
    simp only [Bool.and_eq_true, decide_eq_true_eq] at this
    exact this
  exact ⟨fun q h => by have := hq q h; omega, fun q h => by have := hq q h; omega⟩
theorem serialK (w : World) (a : Option Addr) (n c : Nat) (z : List EZ) (h : EntsAt w a n c z) (hn : n ≤ 12) (hops : z.all (fun q => decide (q.2.ops.length ≤ 1000)) = true)
    (am : Option Addr) (nm cm : Nat) (zm : List MZ) (hm : MadeAt w am nm cm zm) (hnm : nm ≤ 12) (hk : zm.all smallQ = true) (v : Int) (hv : serialL zm z [] (commL (z.map (·.1.ts)) zm) = v) :
    Calls Tryz.prog 26 #[.slice a n c, .slice am nm cm] w fun e w' => e = .returned (.int .i64 v) ∧ Below w.heap.size w w' := by
  have hl := hm.len
  rw [← hv]
  exact serial_any w a n c z h (by omega) (fun q hq => by have := List.all_eq_true.1 hops q hq; simpa using this) am nm cm zm hm (by omega) (smallQ_ok hk)
    (by have := commL_le (z.map (·.1.ts)) zm; unfold BoundU; omega) (fun ts => by have := indsP_le ts zm zm.length; unfold BoundC; exact Nat.lt_of_le_of_lt this (by omega))
theorem orderK (w : World) (am : Option Addr) (nm cm : Nat) (zm : List MZ) (hm : MadeAt w am nm cm zm) (hnm : nm ≤ 12) (v : Int) (hv : orderL zm = v) :
    Calls Tryz.prog 28 #[.slice am nm cm] w fun e w' => e = .returned (.int .i64 v) ∧ Below w.heap.size w w' := by
  rw [← hv]
  exact order_any w am nm cm zm hm (by omega)
def mk28 (ts : Nat) (n kind : Int) (key val : Txt) : Md := ⟨ts, n, kind, ts, key, [], val, true, ts, n, 0, false, [], none, 0, 0, 0, 0⟩
def open28 : Md := ⟨5, 0, 5, 5, [], [], [], false, 0, 0, 0, false, [], none, 0, 0, 0, 0⟩
set_option maxRecDepth 100000 in
set_option maxHeartbeats 4000000 in
theorem call28_any (ts : Nat) (n kind : Int) (key val : Txt) (w : World) :
    Calls Tryz.prog 23 #[.int .u64 (ts : Nat), .int .i64 n, .int .i64 kind, .string ⟨key.toArray⟩, .string ⟨val.toArray⟩] w fun e w' => e = .returned (.agg (mdCells (mk28 ts n kind key val)).toArray) ∧ Below w.heap.size w w' := by
  have HB := Lib.hid ((Below.refl w.heap.size w).alloc (Nat.le_refl _) (.cells (mdCells (mk28 ts n kind key val)).toArray 40))
  have HBk := Lib.hid (Blk.new w (mdCells (mk28 ts n kind key val)) 40)
  go_enter Tryz.func23, Tryz.ntmps23
  go_wp2_with ((with_reducible refine wpList_storeM rfl _ _ rfl _ (mk28 ts n kind key val) ?_ ?_ ?_); rfl; rfl)
  exact bodyPost_ret (results_made rfl _ rfl HBk.out) rfl ⟨rfl, HB.out⟩
def mkE28 (ts lsn : Nat) (key val : Txt) : Entry := ⟨ts, lsn, [⟨key, lsn, false, val⟩]⟩
def Entry28End (x : Entry) (w : World) (e : Ending) (w' : World) : Prop := ∃ (a : Option Addr) (n c : Nat), e = .returned (.agg #[.int .u64 (x.ts : Nat), .int .u64 (x.first : Nat), .slice a n c]) ∧ EntIs w' ⟨x.ts, x.first, a, n, c⟩ x ∧ (∀ g o, a = some ⟨g, o, none⟩ → w.heap.size ≤ g) ∧ Below w.heap.size w w'
set_option maxRecDepth 100000 in
set_option maxHeartbeats 4000000 in
theorem entry28_any (ts lsn : Nat) (key val : Txt) (hts : ts < 18446744073709551616) (hlsn : lsn < 18446744073709551616) (hk : key.length ≤ maxLen) (hv : val.length ≤ maxLen) (w : World) :
    Calls Tryz.prog 24 #[.int .u64 (ts : Nat), .int .u64 (lsn : Nat), .string ⟨key.toArray⟩, .string ⟨val.toArray⟩] w (Entry28End (mkE28 ts lsn key val) w) := by
  have hok : (mkE28 ts lsn key val).ok := ⟨hts, hlsn, fun r hr => by simp [mkE28] at hr; subst hr; exact ⟨hk, hv, hlsn⟩⟩
  go_enter Tryz.func24, Tryz.ntmps24
  go_wp2_with fail
  have hb0 := (Below.refl w.heap.size w).alloc (Nat.le_refl _) (.cells (entCells ⟨ts, lsn, some ⟨w.heap.size + 1, 0, none⟩, 1, 1⟩).toArray 43)
  have hE : Blk ((w.alloc (.cells (entCells ⟨ts, lsn, some ⟨w.heap.size + 1, 0, none⟩, 1, 1⟩).toArray 43)).alloc (.cells (recCells ⟨key, lsn, false, val⟩).toArray 49)) w.heap.size (entCells ⟨ts, lsn, some ⟨w.heap.size + 1, 0, none⟩, 1, 1⟩) 43 := (Blk.new w _ _).alloc _
  have hR : Blk ((w.alloc (.cells (entCells ⟨ts, lsn, some ⟨w.heap.size + 1, 0, none⟩, 1, 1⟩).toArray 43)).alloc (.cells (recCells ⟨key, lsn, false, val⟩).toArray 49)) (w.heap.size + 1) (recCells ⟨key, lsn, false, val⟩) 49 := by
    have := Blk.new (w.alloc (.cells (entCells ⟨ts, lsn, some ⟨w.heap.size + 1, 0, none⟩, 1, 1⟩).toArray 43)) (recCells ⟨key, lsn, false, val⟩) 49
    rw [World.size_alloc] at this
    exact this
  refine bodyPost_ret (results_entry rfl _ rfl hE) rfl ⟨_, _, _, rfl, ⟨rfl, rfl, rfl, ?_, hok⟩, (fun g o e => by cases e; omega), hb0.alloc hb0.size _⟩
  have hR2 : Blk ((w.alloc (.cells (entCells ⟨ts, lsn, some ⟨w.heap.size + 1, 0, none⟩, 1, 1⟩).toArray 43)).alloc (.cells (recCells ⟨key, lsn, false, val⟩).toArray 49)) (w.heap.size + 1) (recsCells [⟨key, lsn, false, val⟩] ++ []) 49 := by simpa [recsCells] using hR
  exact RowsAt.of_blk (n := 1) hR2 rfl (Nat.le_refl _) (by omega)
theorem results_seen {fn : Func} {p : Tmp} (h : fn.results = #[.cell p 47]) (tmps : Array Value) {w : World} {b : Nat} {s : Sn} (hp : tmps.getD p undef = .pointer (some ⟨b, 0, none⟩)) (hE : Blk w b (snCells s) 47) :
    (results fn tmps).run Tryz.prog w = .ok (.agg (snCells s).toArray) w :=
  results_cell_row h tmps w b 47 _ (0, 0) _ hp hE Tryz.underlying47 rfl (by kernel_rfl)
def seen28 (a : Option Addr) (n c : Nat) : Sn := ⟨true, true, false, true, 0, 3, 3, 2, 1, a, n, c, none, 0, 0, 0⟩
set_option maxRecDepth 100000 in
set_option maxHeartbeats 4000000 in
theorem seen28_any (a : Option Addr) (n c : Nat) (w : World) :
    Calls Tryz.prog 25 #[.slice a n c] w fun e w' => e = .returned (.agg (snCells (seen28 a n c)).toArray) ∧ Below w.heap.size w w' := by
  have HB := Lib.hid ((Below.refl w.heap.size w).alloc (Nat.le_refl _) (.cells (snCells (seen28 a n c)).toArray 47))
  have HBk := Lib.hid (Blk.new w (snCells (seen28 a n c)) 47)
  go_enter Tryz.func25, Tryz.ntmps25
  go_wp2_with fail
  exact bodyPost_ret (results_seen rfl _ rfl HBk.out) rfl ⟨rfl, HB.out⟩
end Go.Proofs.YtecknikehieioaaGreat
