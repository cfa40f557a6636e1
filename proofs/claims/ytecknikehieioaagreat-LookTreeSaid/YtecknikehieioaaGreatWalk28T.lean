/-
  The walk of LookTree. Condition: what came in are bytes and bools. (Printed by gen_lookt2.py.)
-/
import Derived.Test.YtecknikehieioaaGreatLookY
import Derived.Test.YtecknikehieioaaGreatLookH
import Derived.Deep.DeepCutAuto
import Derived.Deep.CutBlock
namespace Go.Proofs.YtecknikehieioaaGreat
set_option linter.unusedVariables false
set_option linter.unusedSimpArgs false
open Go.RowKit Go.Maps

/-- The cells of what is seen: up (u), in step (y), its content. -/
def seCells (u y : Bool) (v : Value) : List Value := [.bool true, .bool u, .bool false, .bool y, .int .u64 0, .int .u64 100, .int .u64 100, .int .u64 100, .int .u64 100, v, .slice none 0 0, .int .i64 0]
def seS (u y : Bool) (a : Option Addr) (n c : Nat) : Sn := ⟨true, u, false, y, 0, 100, 100, 100, 100, a, n, c, none, 0, 0, 0⟩
theorem se_cells (u y : Bool) (a : Option Addr) (n c : Nat) : snCells (seS u y a n c) = seCells u y (.slice a n c) := rfl
/-- The best record so far. -/
def bestP (A : List Rec) (k : Txt) (i : Nat) : Rec := (A.take i).foldl (bestF k) zeroR0
theorem bestP_next (A : List Rec) (k : Txt) (i : Nat) (r : Rec) (h : A[i]? = some r) : bestP A k (i + 1) = if r.key = k then r else bestP A k i := by
  unfold bestP
  rw [List.take_add_one, h, List.foldl_append]
  rfl
theorem hw_ops {l : List Wr} {Z : List MZ} {L : List Entry} (h : HW l Z L) (i : Nat) (e : Entry) (he : L[i]? = some e) : ∃ r, e.ops = [r] ∧ (opsOf L)[i]? = some r := by
  have : ∀ (L : List Entry), (∀ e : Entry, e ∈ L → ∃ r, e.ops = [r]) → ∀ (i : Nat) (e : Entry), L[i]? = some e → ∃ r, e.ops = [r] ∧ (opsOf L)[i]? = some r := by
    intro L
    induction L with
    | nil => intro _ i e h; simp at h
    | cons x t ih =>
      intro hall i e he
      obtain ⟨r, hr⟩ := hall x (by simp)
      have e1 : opsOf (x :: t) = r :: opsOf t := by unfold opsOf; rw [List.flatMap_cons, hr]; rfl
      cases i with
      | zero =>
        simp only [List.getElem?_cons_zero, Option.some.injEq] at he
        subst he
        exact ⟨r, hr, by rw [e1]; rfl⟩
      | succ i =>
        simp only [List.getElem?_cons_succ] at he
        rw [e1]
        exact ih (fun e he => hall e (List.mem_cons_of_mem _ he)) i e he
  refine this L (fun e he => ?_) i e he
  obtain ⟨n, hn, hne⟩ := List.getElem_of_mem he
  obtain ⟨i, x, _, _, rfl⟩ := h.ent n e (by rw [← hne]; exact List.getElem?_eq_getElem hn)
  exact ⟨_, rfl⟩
theorem hw_len {l : List Wr} {Z : List MZ} {L : List Entry} (h : HW l Z L) : (opsOf L).length = L.length := by
  have : ∀ (L : List Entry), (∀ e : Entry, e ∈ L → ∃ r, e.ops = [r]) → (opsOf L).length = L.length := by
    intro L
    induction L with
    | nil => intro _; rfl
    | cons x t ih =>
      intro hall
      obtain ⟨r, hr⟩ := hall x (by simp)
      have e1 : opsOf (x :: t) = r :: opsOf t := by unfold opsOf; rw [List.flatMap_cons, hr]; rfl
      rw [e1, List.length_cons, List.length_cons, ih (fun e he => hall e (List.mem_cons_of_mem _ he))]
  refine this L (fun e he => ?_)
  obtain ⟨n, hn, hne⟩ := List.getElem_of_mem he
  obtain ⟨i, x, _, _, rfl⟩ := h.ent n e (by rw [← hne]; exact List.getElem?_eq_getElem hn)
  exact ⟨_, rfl⟩
theorem treeN_le (A : List Rec) (m : Nat) : (treeN A m).length ≤ m := by
  induction m with
  | zero => exact Nat.le_refl _
  | succ m ih =>
    rw [treeN_next, List.length_append]
    have : (hereA A (97 + m)).length ≤ 1 := by unfold hereA; split <;> simp
    omega
section
variable {ops : Array Oper} {rest : List Oper} {op : Oper} {a : Act} {w : World} {Q : Exit → Act → World → Prop}
theorem wpList_storeR (hgd : op.guard = none) (x y : Operand) (ho : op.op = .store 49 x y) (g : Nat) (C : List Value) (r : Rec) (hb : Blk w g C 49) (hC : C.length = 4) (hx : a.eval x = .pointer (some ⟨g, 0, none⟩)) (hy : a.eval y = .agg (recCells r).toArray)
    (h : wpList Tryz.prog ops Q rest (a.put op.dst undef) (w.setRow g (recCells r).toArray)) : wpList Tryz.prog ops Q (op :: rest) a w :=
  wpList_store_row hgd 49 x y ho g (recCells r).toArray hx hy 49 C.toArray hb (by kernel_rfl) (by rw [List.size_toArray, hC]; rfl) (by simp [recCells, Value.oneCell']) h
end
theorem recs_set1 (W : List Rec) (i : Nat) (r : Rec) (v : Txt) (h : W[i]? = some r) : (recsCells W).set (i * 4 + 3) (.string ⟨v.toArray⟩) = recsCells (W.set i { r with val := v }) := by
  induction W generalizing i with
  | nil => simp at h
  | cons q t ih =>
    cases i with
    | zero =>
      simp only [List.getElem?_cons_zero, Option.some.injEq] at h
      subst h
      rfl
    | succ i =>
      have e : (i + 1) * 4 = i * 4 + 4 := by omega
      rw [e, List.set_cons_succ]
      show (recCells q ++ recsCells t).set (i * 4 + 4 + 3) _ = recCells q ++ recsCells (t.set i { r with val := v })
      rw [← ih i (by simpa using h)]
      rfl
/-- An append of nothing. -/
theorem append_nothing (t e ty : TypeId) (ht : Tryz.prog.underlying t = some (.slice e)) (hinf : ∃ i, Tryz.prog.info? e = some i) (w : World) (p : Addr) (n : Nat) (x : Option Addr) (c : Nat) :
    (Builtin.append_ #[t, t] ty #[.slice (some p) n n, .slice x 0 c]).run Tryz.prog w = .ok (.slice (some p) n n) w := by
  obtain ⟨i, hi⟩ := hinf
  cases x <;> simp [Builtin.append_, run_underlying ht, sizeOf, typeInfo, hi, Builtin.lenOf, Builtin.firstCells, storeCells, loadCells, loadCellsFrom]
/-- An append that grows the row: a new one is laid. -/
theorem append_new (t e ty : TypeId) (z : Value) (size bytes : Nat) (ht : Tryz.prog.underlying t = some (.slice e)) (hinf : (Tryz.prog.info? e).map (fun i => (i.zero, i.size, i.bytes)) = some (some z, size, bytes)) (hby : bytes ≤ 1000)
    {w : World} {g n cap : Nat} {cells : List Value} (hcl : cells.length = n * size) (hcells : ∀ j v, cells[j]? = some v → w.cell? ⟨g, j, none⟩ = some v) (hl : n ≤ 1000000)
    (a : Addr) (m c : Nat) (news : List Value) (hm : m ≤ 1000000) (hnl : news.length = m * size) (hnews : ∀ j u, news[j]? = some u → w.cell? (a.add j) = some u) (hg : cap < n + m) :
    ∃ c' w', (Builtin.append_ #[t, t] ty #[.slice (some ⟨g, 0, none⟩) n cap, .slice (some a) m c]).run Tryz.prog w = .ok (.slice (some ⟨w.heap.size, 0, none⟩) (n + m) c') w' ∧ RowsAt w' (some ⟨w.heap.size, 0, none⟩) (n + m) c' size (cells ++ news) ∧ Below w.heap.size w w' := by
  obtain ⟨i, hi, hz0, hz1, hz2⟩ := info_parts hinf
  have hbig : (n + m) * bytes ≤ 2000000 * 1000 := Nat.mul_le_mul (by omega) hby
  have hr := run_append_grow (P := Tryz.prog) (w := w) t ty e i z ht hi hz0 ⟨g, 0, none⟩ n cap cells (by rw [hz1]; exact hcl) (fun j v hv => by rw [addr_add', Nat.zero_add]; exact hcells j v hv) a m c news (by rw [hz1]; exact hnl) hnews hg (by omega) (by rw [hz2]; exact growslice_fits (by omega) (by omega))
  refine ⟨_, _, hr, ?_, (Below.refl _ _).drew.alloc (Nat.le_refl _) _⟩
  have hb := Blk.new w.drew ((cells ++ news) ++ (Builtin.zeroCells z.cells (grownCap w (n + m) cap e - (n + m))).toList) e
  have e1 : ((cells ++ news) ++ (Builtin.zeroCells z.cells (grownCap w (n + m) cap e - (n + m))).toList).toArray = cells.toArray ++ news.toArray ++ Builtin.zeroCells z.cells (grownCap w (n + m) cap e - (n + m)) := by
    apply Array.ext'
    simp
  rw [e1] at hb
  have hb2 : Blk (w.drew.alloc (.cells (cells.toArray ++ news.toArray ++ Builtin.zeroCells z.cells (grownCap w (n + m) cap e - (n + m))) e)) w.heap.size ((cells ++ news) ++ (Builtin.zeroCells z.cells (grownCap w (n + m) cap e - (n + m))).toList) e := hb
  exact RowsAt.of_blk hb2 (by rw [List.length_append, hcl, hnl, Nat.add_mul]) (grownCap_ge w (n + m) cap e) (by omega)
theorem oper_append_run4 {P : Program} {w : World} {o : Oper} {a : Act} {K : Act → World → Prop} {Q : Exit → Act → World → Prop} (s x : Operand) (t : TypeId)
    (ho : o.op = .call { callee := .builtin .append, args := #[s, x], argTypes := #[t, t] }) (v xv v' : Value) (w' : World) (hs : a.eval s = v) (hx : a.eval x = xv)
    (hrun : (Builtin.append_ #[t, t] o.type #[v, xv]).run P w = .ok v' w') (h : K (a.put o.dst v') w') : Oper.wp P o a w K Q := by
  unfold Oper.wp
  simp [execOp, ho, resolve, invoke, builtin, hs, hx, hrun, Result.andThen]
  exact h
/-- A record cut out of the row. -/
theorem recs_cut {w : World} {g c nl : Nat} {N : List Rec} {rest : List Value} (h : Blk w g (recsCells N ++ rest) 49) (hn : N.length = nl) (hN : nl ≤ 10) (hc : nl ≤ c) (k : Nat) (hk : k < nl) :
    ∀ o2, (c = k + 1 ∨ o2 = (k + 1) * 4) → ∃ (a' : Option Addr) (n' c' : Nat) (w' : World), (Builtin.append_ #[41, 41] 41 #[.slice (some ⟨g, 0, none⟩) k k, .slice (some ⟨g, o2, none⟩) (nl - (k + 1)) (c - (k + 1))]).run Tryz.prog w = .ok (.slice a' n' c') w' ∧ RowsAt w' a' n' c' 4 (recsCells (N.take k ++ N.drop (k + 1))) ∧ n' = (N.take k ++ N.drop (k + 1)).length ∧ Below w.heap.size w w' ∧ (∀ x o, a' = some ⟨x, o, none⟩ → (x = g ∨ w.heap.size ≤ x) ∧ x < w'.heap.size) := by
  intro o2 ho2
  have e1 : recsCells N = recsCells (N.take k) ++ recsCells (N.drop k) := by rw [← recs_append, List.take_append_drop]
  have e2 : recsCells N = recsCells (N.take (k + 1)) ++ recsCells (N.drop (k + 1)) := by rw [← recs_append, List.take_append_drop]
  have l0 : (N.take k).length = k := by rw [List.length_take]; omega
  have l1 : (recsCells (N.take k)).length = k * 4 := by rw [recs_length, l0]
  have l2 : (recsCells (N.take (k + 1))).length = (k + 1) * 4 := by rw [recs_length, List.length_take]; congr 1; omega
  have l3 : (recsCells (N.drop (k + 1))).length = (nl - (k + 1)) * 4 := by rw [recs_length, List.length_drop, hn]
  have hcell : ∀ j u, (recsCells N)[j]? = some u → w.cell? ⟨g, j, none⟩ = some u := fun j u hj => by
    rw [h.cell, List.getElem?_append_left (List.getElem?_eq_some_iff.1 hj).1]; exact hj
  have c1 : ∀ j u, (recsCells (N.take k))[j]? = some u → w.cell? ⟨g, j, none⟩ = some u := fun j u hj => hcell j u (by rw [e1, List.getElem?_append_left (List.getElem?_eq_some_iff.1 hj).1]; exact hj)
  have c2 : ∀ j u, (recsCells (N.drop (k + 1)))[j]? = some u → w.cell? ⟨g, (k + 1) * 4 + j, none⟩ = some u := fun j u hj => hcell _ u (by rw [e2, List.getElem?_append_right (by omega), l2, Nat.add_sub_cancel_left]; exact hj)
  by_cases hlast : nl - (k + 1) = 0
  · have hd : N.drop (k + 1) = [] := List.drop_eq_nil_of_le (by omega)
    refine ⟨some ⟨g, 0, none⟩, k, k, w, ?_, ?_, ?_, Below.refl _ _, fun x o e => by cases e; exact ⟨.inl rfl, h.lt⟩⟩
    · rw [hlast]
      exact append_nothing 41 49 41 Tryz.underlying41 (by obtain ⟨i, hi, _⟩ := info_parts info_rec; exact ⟨i, hi⟩) w _ k _ _
    · rw [hd, List.append_nil]
      refine RowsAt.of_blk (T := 49) (rest := recsCells (N.drop k) ++ rest) ?_ l1 (Nat.le_refl _) (by omega)
      rw [← List.append_assoc, ← e1]
      exact h
    · rw [hd, List.append_nil, l0]
  · obtain rfl : o2 = (k + 1) * 4 := ho2.resolve_left (by omega)
    obtain ⟨c', w', hrun, hrow, hb⟩ := append_new 41 49 41 _ 4 48 Tryz.underlying41 info_rec (by omega) (w := w) (g := g) (n := k) (cap := k) (cells := recsCells (N.take k)) l1 c1 (by omega) ⟨g, (k + 1) * 4, none⟩ (nl - (k + 1)) (c - (k + 1)) (recsCells (N.drop (k + 1))) (by omega) l3 (fun j u hj => by rw [addr_add']; exact c2 j u hj) (by omega)
    rw [← recs_append] at hrow
    obtain ⟨g', o', e', hg', _⟩ := hrow.at_ (by omega)
    simp only [Option.some.injEq, Addr.mk.injEq, and_true] at e'
    obtain ⟨rfl, rfl⟩ := e'
    exact ⟨_, _, _, _, hrun, hrow, by rw [List.length_append, l0, List.length_drop, hn], hb, fun x o e => by cases e; exact ⟨.inr (Nat.le_refl _), hg'⟩⟩
set_option maxRecDepth 100000 in
set_option maxHeartbeats 16000000 in
theorem tree_law (w : World) (a : Option Addr) (n c : Nat) (l : List Wr) (h : RowsAt w a n c 4 (wrsCells l)) (hl : n = l.length) (hb : ∀ x ∈ l, x.key < 256 ∧ x.val < 256) (which : Nat) (hw : which < 256) (gone : Bool) :
    Calls Tryz.prog 5 #[.slice a n c, .int .u8 (which : Nat), .bool gone] w fun e w' => e = .returned (.bool true) ∧ Below w.heap.size w w' := by
  have HWk := Lib.hid (works28_any w)
  have HH := Lib.hid (fun w' (hb' : Below w.heap.size w w') => history_any w' a n c l (h.on hb') hl hb)
  clear h hl hb
  go_enter Tryz.func5, Tryz.ntmps5
  go_wp2_with fail
  refine HWk.out.mono ?_
  rintro e w1 ⟨rfl, hb1⟩
  have HB1 := Lib.hid hb1
  have HHi := Lib.hid (HH.out w1 hb1)
  clear hb1 HH HWk
  go_wp2_with fail
  refine HHi.out.mono ?_
  rintro e w2 ⟨a1, n1, c1, a2, n2, c2, Z, ez, rfl, hH, hn1, hn2, hW, hb2⟩
  have HB2 := Lib.hid (HB1.out.trans (hb2.mono HB1.out.size))
  have HEz := Lib.hid (show EntsAt w2 a2 n2 c2 ez from by
    subst hn2
    obtain ⟨h1, h2⟩ := own_rows hH.ents
    exact ⟨rfl, h1, hH.eachZ⟩)
  have hlen := hW.len
  rw [List.length_take, List.length_map] at hlen
  have hn40 : n2 ≤ 40 := by rw [hn2]; omega
  have HHW := Lib.hid hW
  have HGood := Lib.hid (hW.good (by rw [List.length_take]; omega))
  have HOl := Lib.hid (show (opsOf (ez.map (·.2))).length = n2 by rw [hw_len hW, List.length_map, hn2])
  have HE1 := Lib.hid (show ∀ q ∈ ez, q.2.ops.length ≤ 1000 from fun q hq => by
    obtain ⟨k, hk, hkq⟩ := List.getElem_of_mem hq
    obtain ⟨r, hr, _⟩ := hw_ops hW k q.2 (by rw [List.getElem?_map, List.getElem?_eq_getElem hk, hkq]; rfl)
    rw [hr]; show 1 ≤ 1000; omega)
  clear hH hn1 hn2 hW hb2 hlen HB1 HHi
  obtain ⟨A, hA⟩ : ∃ A, opsOf (ez.map (·.2)) = A := ⟨_, rfl⟩
  rw [hA] at HGood HOl
  have HAe := Lib.hid hA
  clear hA
  go_upto_region 5 with fail
  have hS := Blk.new w2 (seCells true true (.slice none 0 0)) 47
  have hbS := (Below.refl w2.heap.size w2).alloc (Nat.le_refl _) (.cells (seCells true true (.slice none 0 0)).toArray 47)
  obtain ⟨sb, hsb⟩ : ∃ x, w2.heap.size = x := ⟨_, rfl⟩
  rw [hsb] at hS
  simp only [hsb]
  have HSb := Lib.hid hsb
  change Code.wp _ _ _ _ (w2.alloc (.cells (seCells true true (.slice none 0 0)).toArray 47))
  generalize w2.alloc (.cells (seCells true true (.slice none 0 0)).toArray 47) = w3 at *
  have HS3 := Lib.hid hS
  have HB3 := Lib.hid hbS
  have HSz := Lib.hid (show sb < w3.heap.size from hS.lt)
  clear hS hbS hsb
  go_wp2_with fail
  go_loopw [10, 11, 12] (fun s10 _ _ wr => ∃ (m : Nat) (v9 : Value), m ≤ 5 ∧ s10 = .int .u8 ((97 + m : Nat) : Int) ∧ Blk wr sb (seCells true true v9) 47 ∧ wr.ownsRow w3.heap.size 49 4 v9 (treeN A m).length (recsCells (treeN A m)) ∧ Mod [sb] w3 wr) (fun s10 _ _ _ => 102 - (intOf s10).toNat)
  case atStart => exact ⟨0, .slice none 0 0, by omega, rfl, HS3.out, ⟨rfl, .inl ⟨rfl, rfl⟩⟩, Mod.refl _ _⟩
  case round =>
    obtain ⟨m, v9, hm5, rfl, hblk, hown, hmod⟩ := hrel
    have hsr := hmod.size
    by_cases hlt : m < 5
    · obtain ⟨ch, hch⟩ : ∃ k, 97 + m = k := ⟨_, rfl⟩
      rw [hch]
      have hchl : (ch : Int) < 102 := by omega
      have hwch : IntKind.u8.wrap ((ch : Int) + 1) = (ch : Int) + 1 := IntWalk.u8_in _ (by omega)
      have hch2 : 97 ≤ ch ∧ ch < 102 := by omega
      have HCh := Lib.hid hch
      have HBl := Lib.hid hblk
      have HOw := Lib.hid hown
      have HMo := Lib.hid hmod
      have HSr := Lib.hid hsr
      clear hch hblk hown hmod hsr
      go_upto_region 9 with fail
      have hB := Blk.new wr (recCells zeroR0) 49
      have hbB := (Below.refl wr.heap.size wr).alloc (Nat.le_refl _) (.cells (recCells zeroR0).toArray 49)
      obtain ⟨bb, hbb⟩ : ∃ x, wr.heap.size = x := ⟨_, rfl⟩
      rw [hbb] at hB
      simp only [hbb]
      change Code.wp _ _ _ _ (wr.alloc (.cells (recCells zeroR0).toArray 49))
      generalize hw4 : wr.alloc (.cells (recCells zeroR0).toArray 49) = w4 at *
      have HB4 := Lib.hid (show Below wr.heap.size wr w4 from hbB)
      have HBb := Lib.hid (show wr.heap.size = bb ∧ bb < w4.heap.size from ⟨hbb, hB.lt⟩)
      have HB := Lib.hid hB
      clear hB hbB hbb hw4
      go_wp2_with fail
      generalize wr = wo at *
      go_loopw [12] (fun s12 wr => ∃ i : Nat, i ≤ n2 ∧ s12 = .int .i64 i ∧ Blk wr bb (recCells (bestP A [UInt8.ofNat ch] i)) 49 ∧ Mod [bb] w4 wr) (fun s12 _ => n2 - (intOf s12).toNat)
      case atStart => exact ⟨0, by omega, rfl, HB.out, Mod.refl _ _⟩
      case round =>
        clear HB
        obtain ⟨i, hi, rfl, hbk, hm⟩ := hrel
        have hbz : Below w2.heap.size w2 wr := by
          have h1 := HSb.out
          have h2 := HB3.out.size
          have h3 := HSr.out
          have h4 := HBb.out
          have h5 := HB4.out.size
          exact HB3.out.trans ((HMo.out.below (fun y hy => by simp only [List.mem_singleton] at hy; omega) h2).trans ((HB4.out.mono (by omega)).trans (hm.below (fun y hy => by simp only [List.mem_singleton] at hy; omega) (by omega))))
        have hsr := hm.size
        by_cases hlt2 : i < n2
        · have hil : (i : Int) < (n2 : Int) := by omega
          obtain ⟨q, g, o, hq, hqz, e2, hg, d0, d1, d2⟩ := (HEz.out.on hbz).row hlt2
          obtain ⟨r, hr, hAr⟩ := hw_ops HHW.out i q.2 (by rw [List.getElem?_map, hq]; rfl)
          rw [HAe.out] at hAr
          have hEI := (HEz.out.on hbz).each q hqz
          have hrows := hEI.rows
          have hqn := hEI.n
          rw [hr] at hrows hqn
          obtain ⟨r', g2, o2, hr', _, e3, hg2, f0, f1, f2, f3⟩ := recs_row hrows hqn (i := 0) (by rw [hqn]; show 0 < 1; omega)
          simp only [List.getElem?_cons_zero, Option.some.injEq] at hr'
          subst hr'
          have hqn1 : q.1.n = 1 := hqn
          rw [e3, hqn1] at d2
          simp only [Nat.zero_mul, Nat.add_zero] at f0 f1 f2 f3
          obtain ⟨kt, hkt⟩ : ∃ k : Txt, [UInt8.ofNat ch] = k := ⟨_, rfl⟩
          have HNx := Lib.hid (show bestP A kt (i + 1) = if r.key = kt then r else bestP A kt i from bestP_next A kt i r hAr)
          rw [hkt] at hbk
          have hlet : RowAt (wr.alloc (.cells #[.int .u8 (ch : Nat)] 5)) wr.heap.size 5 (kt.map bv) := by
            rw [← hkt]
            have h := (Blk.new wr [.int .u8 (ch : Nat)] 5).row
            have e : ([UInt8.ofNat ch] : Txt).map bv = [.int .u8 (ch : Nat)] := by
              show [bv (UInt8.ofNat ch)] = _
              unfold bv
              rw [UInt8.toNat_ofNat_of_lt' (show ch < 256 by omega)]
            rw [e]
            exact h
          have HF := Lib.hid (show ∀ w', Below wr.heap.size wr w' → (w'.cell? ⟨g, o + i * 3 + 2, none⟩ = some (.slice (some ⟨g2, o2, none⟩) 1 q.1.c) ∧ w'.cell? ⟨g2, o2, none⟩ = some (.string ⟨r.key.toArray⟩) ∧ w'.cell? ⟨g2, o2 + 1, none⟩ = some (.int .u64 (r.lsn : Nat)) ∧ w'.cell? ⟨g2, o2 + 2, none⟩ = some (.bool r.del) ∧ w'.cell? ⟨g2, o2 + 3, none⟩ = some (.string ⟨r.val.toArray⟩)) from
            fun w' hb => ⟨(hb.cell (p := ⟨g, o + i * 3 + 2, none⟩) hg).trans d2, (hb.cell (p := ⟨g2, o2, none⟩) hg2).trans f0, (hb.cell (p := ⟨g2, o2 + 1, none⟩) hg2).trans f1, (hb.cell (p := ⟨g2, o2 + 2, none⟩) hg2).trans f2, (hb.cell (p := ⟨g2, o2 + 3, none⟩) hg2).trans f3⟩)
          have HBk := Lib.hid hbk
          have HM := Lib.hid hm
          have HKt := Lib.hid hkt
          obtain ⟨qc, hqc⟩ : ∃ k, q.1.c = k := ⟨_, rfl⟩
          obtain ⟨rk, rl, rd, rv⟩ := r
          simp only [hqc] at HF HNx
          clear hq hqz hg d0 d1 d2 hr hAr hEI hrows hqn hqn1 hg2 f0 f1 f2 f3 hbk hm hbz hkt hqc e3
          have hcv : ∀ w' : World, (RowAt (w'.alloc (.cells #[.int .u8 (ch : Nat)] 5)) w'.heap.size 5 (kt.map bv)) → (convert 50 9 (.slice (some ⟨w'.heap.size, 0, none⟩) 1 1)).run Tryz.prog (w'.alloc (.cells #[.int .u8 (ch : Nat)] 5)) = .ok (.string ⟨kt.toArray⟩) (w'.alloc (.cells #[.int .u8 (ch : Nat)] 5)) := fun w' h => by
            have hl : kt.length = 1 := by rw [← HKt.out]; rfl
            have := conv_string (l := kt) h 50 9 1 Tryz.underlying50 Tryz.underlying5 Tryz.underlying9
            rw [hl] at this
            exact this
          have HRowK := Lib.hid (show ∀ w' : World, RowAt (w'.alloc (.cells #[.int .u8 (ch : Nat)] 5)) w'.heap.size 5 (kt.map bv) from fun w' => by
            rw [← HKt.out]
            have h := (Blk.new w' [.int .u8 (ch : Nat)] 5).row
            have e : ([UInt8.ofNat ch] : Txt).map bv = [.int .u8 (ch : Nat)] := by
              show [bv (UInt8.ofNat ch)] = _
              unfold bv
              rw [UInt8.toNat_ofNat_of_lt' (show ch < 256 by omega)]
            rw [e]
            exact h)
          have HCv := Lib.hid hcv
          clear hlet hcv
          subst e2
          by_cases hk : rk = kt
          · have HN := Lib.hid (show bestP A kt (i + 1) = ⟨rk, rl, rd, rv⟩ by rw [HNx.out, if_pos hk])
            have q1 : ((⟨rk.toArray⟩ : ByteArray) == ⟨kt.toArray⟩) = true := by rw [bytes_beq]; simp [hk]
            have q2 : (rk == kt) = true := by simp [hk]
            clear hk
            go_upto_region 12 with fail
            refine wp_region_float [0, 1, 2, 3, 4, 5, 6, 7, 8] [9, 10, 11] [] (fun w' => Below wr.heap.size wr w') (by kernel_rfl) (by kernel_rfl) (by kernel_rfl) (by kernel_rfl) (fun c a d v w h => by cases d <;> exact h) (below_drew (Below.refl _ _)) ?_
            have hS : Below wr.heap.size wr { wr with drawn := wr.drawn + 1 } := below_drew (Below.refl _ _)
            generalize ({ wr with drawn := wr.drawn + 1 } : World) = w5 at *
            simp only [pick, List.map_cons, List.map_nil, List.getD_cons_zero, List.getD_cons_succ]
            repeat (
              refine takes_val (v := ?_) ?_ (fun w' hS => ?_) ?_
              rotate_left
              · rfl
              · obtain ⟨k0, k1, k2, k3, k4⟩ := HF.out w' hS
                go_simp
                with_reducible rfl
              simp only [Act.put, List.setIfInBounds_toArray, List.set_cons_zero, List.set_cons_succ])
            refine takes_nil ?_
            have hS2 := hS.alloc hS.size (.cells #[.int .u8 (ch : Nat)] 5)
            have hrun := HCv.out w5 (HRowK.out w5)
            refine seqW_step (by rfl) (fun K hK => ?_)
            go_simp
            refine hK.out _ _ (.inr hS2) ?_
            clear hK K
            refine seqW_step (by rfl) (fun K hK => ?_)
            go_simp
            refine hK.out _ _ (.inr hS2) ?_
            clear hK K
            refine seqW_step (by rfl) (fun K hK => ?_)
            go_simp
            refine hK.out _ _ (.inr hS2) (seqW_nil ?_)
            clear hK K hrun
            generalize w5.alloc (.cells #[.int .u8 (ch : Nat)] 5) = w6 at *
            obtain ⟨k0, k1, k2, k3, k4⟩ := HF.out w6 hS2
            have HB6 := Lib.hid (HBk.out.on hS2)
            have HM6 := Lib.hid (HM.out.thenBelow hS2)
            clear hS hS2 HF
            have HB7 := Lib.hid (setRow_blk HB6.out (recCells ⟨rk, rl, rd, rv⟩))
            have HM7 := Lib.hid (HM6.out.trans (setRow_mod w6 bb (recCells ⟨rk, rl, rd, rv⟩).toArray))
            go_wp2_with ((with_reducible refine wpList_storeR rfl _ _ rfl _ _ ⟨rk, rl, rd, rv⟩ HB6.out rfl ?_ ?_ ?_); rfl; rfl)
            go_roundw
            case rel => exact ⟨i + 1, by omega, by go_num, by rw [HKt.out, HN.out]; exact HB7.out, HM7.out⟩
            case measure => simp [intOf]; omega
          · have HN := Lib.hid (show bestP A kt (i + 1) = bestP A kt i by rw [HNx.out, if_neg hk])
            have q1 : ((⟨rk.toArray⟩ : ByteArray) == ⟨kt.toArray⟩) = false := by rw [bytes_beq]; simp [hk]
            have q2 : (rk == kt) = false := by simp [hk]
            clear hk
            go_upto_region 12 with fail
            refine wp_region_float [0, 1, 2, 3, 4, 5, 6, 7, 8] [9, 10, 11] [] (fun w' => Below wr.heap.size wr w') (by kernel_rfl) (by kernel_rfl) (by kernel_rfl) (by kernel_rfl) (fun c a d v w h => by cases d <;> exact h) (below_drew (Below.refl _ _)) ?_
            have hS : Below wr.heap.size wr { wr with drawn := wr.drawn + 1 } := below_drew (Below.refl _ _)
            generalize ({ wr with drawn := wr.drawn + 1 } : World) = w5 at *
            simp only [pick, List.map_cons, List.map_nil, List.getD_cons_zero, List.getD_cons_succ]
            repeat (
              refine takes_val (v := ?_) ?_ (fun w' hS => ?_) ?_
              rotate_left
              · rfl
              · obtain ⟨k0, k1, k2, k3, k4⟩ := HF.out w' hS
                go_simp
                with_reducible rfl
              simp only [Act.put, List.setIfInBounds_toArray, List.set_cons_zero, List.set_cons_succ])
            refine takes_nil ?_
            have hS2 := hS.alloc hS.size (.cells #[.int .u8 (ch : Nat)] 5)
            have hrun := HCv.out w5 (HRowK.out w5)
            refine seqW_step (by rfl) (fun K hK => ?_)
            go_simp
            refine hK.out _ _ (.inr hS2) ?_
            clear hK K
            refine seqW_step (by rfl) (fun K hK => ?_)
            go_simp
            refine hK.out _ _ (.inr hS2) ?_
            clear hK K
            refine seqW_step (by rfl) (fun K hK => ?_)
            go_simp
            refine hK.out _ _ (.inr hS2) (seqW_nil ?_)
            clear hK K hrun
            generalize w5.alloc (.cells #[.int .u8 (ch : Nat)] 5) = w6 at *
            obtain ⟨k0, k1, k2, k3, k4⟩ := HF.out w6 hS2
            have HB6 := Lib.hid (HBk.out.on hS2)
            have HM6 := Lib.hid (HM.out.thenBelow hS2)
            clear hS hS2 HF
            go_wp2_with fail
            go_roundw
            case rel => exact ⟨i + 1, by omega, by go_num, by rw [HKt.out, HN.out]; exact HB6.out, HM6.out⟩
            case measure => simp [intOf]; omega
        · have hge2 : ¬ (i : Int) < (n2 : Int) := by omega
          have hall : A.take i = A := List.take_of_length_le (by have := HOl.out; omega)
          have hbe : bestP A [UInt8.ofNat ch] i = bestA A [UInt8.ofNat ch] := by unfold bestP bestA; rw [hall]
          rw [hbe] at hbk
          have HTn := Lib.hid (show treeN A (m + 1) = treeN A m ++ hereA A ch by rw [treeN_next, HCh.out])
          have HHe := Lib.hid (show hereA A ch = if 0 < (bestA A [UInt8.ofNat ch]).lsn ∧ (bestA A [UInt8.ofNat ch]).del = false then [bestA A [UInt8.ofNat ch]] else [] from rfl)
          obtain ⟨R, hR⟩ : ∃ R, bestA A [UInt8.ofNat ch] = R := ⟨_, rfl⟩
          rw [hR] at hbk HHe
          obtain ⟨bk, bl, bd, bw⟩ := R
          simp only at HHe
          obtain ⟨a9, c9, rfl⟩ := own_slice HOw.out
          have h1 := HSb.out
          have h2 := HB3.out.size
          have h3 := HSr.out
          have h4 := HBb.out
          have h5 := HB4.out.size
          have hsbl := HSz.out
          have HBk := Lib.hid hbk
          have HMr := Lib.hid (show Mod [sb] w3 wr from (HMo.out.thenBelow HB4.out).on hm (fun y hy => by simp only [List.mem_singleton] at hy; right; omega))
          have HBlr := Lib.hid (show Blk wr sb (seCells true true (.slice a9 (treeN A m).length c9)) 47 from (HBl.out.on HB4.out).mod hm (by simp only [List.mem_singleton]; omega))
          have HOwr := Lib.hid (show wr.ownsRow w3.heap.size 49 4 (.slice a9 (treeN A m).length c9) (treeN A m).length (recsCells (treeN A m)) from ownsRow_mod (ownsRow_mod HOw.out (Mod.of_below HB4.out (S := [])) (by simp)) hm (fun y hy e => by simp only [List.mem_singleton] at hy; have := (HOw.out.lt y e).2; omega))
          have HLt := Lib.hid (show ∀ y, (Value.slice a9 (treeN A m).length c9).ownBlock = some y → w3.heap.size ≤ y ∧ y < wo.heap.size from HOw.out.lt)
          have HSrr := Lib.hid (show w3.heap.size ≤ wr.heap.size ∧ bb < wr.heap.size by omega)
          have hTl : (treeN A m).length ≤ 5 := by have := treeN_le A m; omega
          have e0 : wr.cell? ⟨bb, 0, none⟩ = some (.string ⟨bk.toArray⟩) := by rw [hbk.cell]; rfl
          have e1 : wr.cell? ⟨bb, 1, none⟩ = some (.int .u64 (bl : Nat)) := by rw [hbk.cell]; rfl
          have e2 : wr.cell? ⟨bb, 2, none⟩ = some (.bool bd) := by rw [hbk.cell]; rfl
          have e3 : wr.cell? ⟨bb, 3, none⟩ = some (.string ⟨bw.toArray⟩) := by rw [hbk.cell]; rfl
          have s9 : wr.cell? ⟨sb, 9, none⟩ = some (.slice a9 (treeN A m).length c9) := by rw [HBlr.out.cell]; rfl
          have hnum : ((97 + (m + 1) : Nat) : Int) = (ch : Int) + 1 := by have := HCh.out; omega
          have HNum := Lib.hid hnum
          clear hbk hall hbe hR hm hbz hsr h1 h2 h3 h4 h5 hsbl hnum HBl HOw HMo
          by_cases hbl0 : 0 < bl
          · have hbl1 : (bl : Int) > 0 := by omega
            cases bd with
            | true =>
              have HE := Lib.hid (show treeN A (m + 1) = treeN A m by rw [HTn.out, HHe.out, if_neg (by simp)]; simp)
              clear hbl0
              go_wp2_with fail
              go_roundw
              case rel => exact ⟨m + 1, .slice a9 (treeN A m).length c9, by omega, by rw [HNum.out], HBlr.out, by rw [HE.out]; exact HOwr.out, HMr.out⟩
              case measure => simp [intOf]; omega
            | false =>
              have HE := Lib.hid (show treeN A (m + 1) = treeN A m ++ [⟨bk, bl, false, bw⟩] by rw [HTn.out, HHe.out, if_pos ⟨hbl0, rfl⟩])
              have hbn2 := (Below.refl wr.heap.size wr).alloc (Nat.le_refl _) (.cells #[.string ⟨bk.toArray⟩, .int .u64 (bl : Nat), .bool false, .string ⟨bw.toArray⟩] 49)
              have hN2 : Blk (wr.alloc (.cells #[.string ⟨bk.toArray⟩, .int .u64 (bl : Nat), .bool false, .string ⟨bw.toArray⟩] 49)) wr.heap.size (recsCells [⟨bk, bl, false, bw⟩]) 49 := Blk.new wr [.string ⟨bk.toArray⟩, .int .u64 (bl : Nat), .bool false, .string ⟨bw.toArray⟩] 49
              obtain ⟨v', w9, hrun, hown', hmod, hblk⟩ := own_append 41 49 41 _ 4 48 Tryz.underlying41 info_rec rfl (by decide) (by decide) (HOwr.out.alloc (.cells #[.string ⟨bk.toArray⟩, .int .u64 (bl : Nat), .bool false, .string ⟨bw.toArray⟩] 49))
                (by omega) (by have := HSrr.out; simp; omega) ⟨wr.heap.size, 0, none⟩ 1 1 (recsCells [⟨bk, bl, false, bw⟩]) (by omega) (by omega) rfl
                (fun k u hk => by rw [addr_add', Nat.zero_add, hN2.cell]; exact hk) (recs_one _)
              rw [← recs_append] at hown'
              obtain ⟨a', c', rfl⟩ := own_slice hown'
              have hmr9 : Mod (Value.slice a9 (treeN A m).length c9).ownBlock.toList wr w9 := (Mod.of_below hbn2).trans hmod
              have hB9 : Blk w9 sb (seCells true true (.slice a9 (treeN A m).length c9)) 47 := HBlr.out.mod hmr9 (fun hy => by have := (HLt.out sb (by simpa using hy)).1; have := HSz.out; omega)
              have f9 := hB9.free 9
              have g9 : w9.cell? ⟨sb, 9, none⟩ = some (.slice a9 (treeN A m).length c9) := by rw [hB9.cell]; rfl
              have hB10 := hB9.set 9 (.slice a' ((treeN A m).length + 1) c')
              have hm10 : Mod [sb] w9 (w9.setCell ⟨sb, 9, none⟩ (.slice a' ((treeN A m).length + 1) c')) := (Mod.refl _ _).setCell _ _ (.inl (by simp))
              have HB10 := Lib.hid (show Blk (w9.setCell ⟨sb, 9, none⟩ (.slice a' ((treeN A m).length + 1) c')) sb (seCells true true (.slice a' ((treeN A m).length + 1) c')) 47 from hB10)
              have HM10 := Lib.hid (show Mod [sb] w3 (w9.setCell ⟨sb, 9, none⟩ (.slice a' ((treeN A m).length + 1) c')) from (HMr.out.on hmr9 (fun y hy => .inr (HLt.out y (by simpa using hy)).1)).trans hm10)
              have HO10 := Lib.hid (show (w9.setCell ⟨sb, 9, none⟩ (.slice a' ((treeN A m).length + 1) c')).ownsRow w3.heap.size 49 4 (.slice a' ((treeN A m).length + 1) c') (treeN A (m + 1)).length (recsCells (treeN A (m + 1))) from by
                rw [HE.out, List.length_append]
                exact ownsRow_mod hown' hm10 (fun y hy e => by simp only [List.mem_singleton] at hy; have := (hown'.lt y e).1; have := HSz.out; omega))
              clear hbl0 hbn2 hN2 hown' hmod hblk hmr9 hB9 hB10 hm10
              go_wp2_with (at_builtin; (with_reducible refine wpList_append_run rfl _ _ _ rfl _ _ _ _ ?_ ?_ hrun ?_); rfl; rfl)
              go_roundw
              case rel => exact ⟨m + 1, .slice a' ((treeN A m).length + 1) c', by omega, by rw [HNum.out], HB10.out, HO10.out, HM10.out⟩
              case measure => simp [intOf]; omega
          · have hbl1 : ¬ (bl : Int) > 0 := by omega
            have HE := Lib.hid (show treeN A (m + 1) = treeN A m by rw [HTn.out, HHe.out, if_neg (fun h => hbl0 h.1)]; simp)
            clear hbl0
            go_wp2_with fail
            go_roundw
            case rel => exact ⟨m + 1, .slice a9 (treeN A m).length c9, by omega, by rw [HNum.out], HBlr.out, by rw [HE.out]; exact HOwr.out, HMr.out⟩
            case measure => simp [intOf]; omega
    · have hm5' : m = 5 := by omega
      subst hm5'
      have hge : ¬ (((97 + 5 : Nat) : Int) < 102) := by omega
      obtain ⟨a9, c9, rfl⟩ := own_slice hown
      have hTl := treeN_le A 5
      have HNok := Lib.hid (show ∀ r ∈ treeN A 5, r.key.length ≤ 1 ∧ r.val.length ≤ 1 ∧ r.lsn ≤ 100 from fun r hr => by
        obtain ⟨h1, h2, c, h3, h4, h5, h6⟩ := treeN_in hr
        exact ⟨by rw [h5]; exact Nat.le_refl _, by rw [HGood.out.val r h1 h2]; exact Nat.le_refl _, (HGood.out.pos r h1).2⟩)
      have HT1 := Lib.hid (tree_all HGood.out)
      have HT2 := Lib.hid (fun k (hk : k < (treeN A 5).length) => tree_gone HGood.out k hk)
      have HT3 := Lib.hid (fun k x (hx : (treeN A 5)[k]? = some x) => tree_spoilt HGood.out k x hx)
      obtain ⟨N, hN⟩ : ∃ N, treeN A 5 = N := ⟨_, rfl⟩
      rw [hN] at hblk hown hTl HNok HT1 HT2 HT3
      obtain ⟨nl, hnl⟩ : ∃ k, N.length = k := ⟨_, rfl⟩
      rw [hnl] at hblk hown hTl
      have HNl := Lib.hid hnl
      clear hN hnl hge
      have HBl := Lib.hid hblk
      have HOw := Lib.hid hown
      have hbz : Below w2.heap.size w2 wr := by
        have h1 := HSb.out
        exact HB3.out.trans (hmod.below (fun y hy => by simp only [List.mem_singleton] at hy; omega) HB3.out.size)
      have HBz := Lib.hid hbz
      have HTK := Lib.hid (show ∀ (w' : World) (u y : Bool) (a : Option Addr) (n c : Nat) (N' : List Rec) (v : Int), Below w2.heap.size w2 w' → RowsAt w' a n c 4 (recsCells N') → n = N'.length → n ≤ 5 → (∀ r ∈ N', r.ok) → treeL (u && y) 100 100 100 N' A = v →
          Calls Tryz.prog 17 #[.agg #[.bool true, .bool u, .bool false, .bool y, .int .u64 0, .int .u64 100, .int .u64 100, .int .u64 100, .int .u64 100, .slice a n c, .slice none 0 0, .int .i64 0], .slice a2 n2 c2] w' fun e w'' => e = .returned (.int .i64 v) ∧ Below w'.heap.size w' w'' from
        fun w' u y a n c N' v hb hr hn hn5 hok hv => treeK w' (seS u y a n c) N' hr hn (by show n ≤ 100000; omega) hok a2 n2 c2 ez (HEz.out.on hb) (by omega) (List.all_eq_true.2 fun q hq => decide_eq_true (HE1.out q hq)) v (by rw [HAe.out]; exact hv))
      clear hblk hown hmod hbz
      have HR1 := Lib.hid (show RowsAt wr a9 nl c9 4 (recsCells N) from (own_rows HOw.out).1)
      have HK1 := Lib.hid (HTK.out wr true true a9 nl c9 N (-1) HBz.out HR1.out (by rw [HNl.out]) hTl (fun r hr => by
        obtain ⟨h1, h2, h3⟩ := HNok.out r hr
        exact ⟨by unfold maxLen; omega, by unfold maxLen; omega, by omega⟩) HT1.out)
      have s0 : wr.cell? ⟨sb, 0, none⟩ = some (.bool true) := by rw [HBl.out.cell]; rfl
      have s1 : wr.cell? ⟨sb, 1, none⟩ = some (.bool true) := by rw [HBl.out.cell]; rfl
      have s2 : wr.cell? ⟨sb, 2, none⟩ = some (.bool false) := by rw [HBl.out.cell]; rfl
      have s3 : wr.cell? ⟨sb, 3, none⟩ = some (.bool true) := by rw [HBl.out.cell]; rfl
      have s4 : wr.cell? ⟨sb, 4, none⟩ = some (.int .u64 0) := by rw [HBl.out.cell]; rfl
      have s5 : wr.cell? ⟨sb, 5, none⟩ = some (.int .u64 100) := by rw [HBl.out.cell]; rfl
      have s6 : wr.cell? ⟨sb, 6, none⟩ = some (.int .u64 100) := by rw [HBl.out.cell]; rfl
      have s7 : wr.cell? ⟨sb, 7, none⟩ = some (.int .u64 100) := by rw [HBl.out.cell]; rfl
      have s8 : wr.cell? ⟨sb, 8, none⟩ = some (.int .u64 100) := by rw [HBl.out.cell]; rfl
      have s9 : wr.cell? ⟨sb, 9, none⟩ = some (.slice a9 nl c9) := by rw [HBl.out.cell]; rfl
      have s10 : wr.cell? ⟨sb, 10, none⟩ = some (.slice none 0 0) := by rw [HBl.out.cell]; rfl
      have s11 : wr.cell? ⟨sb, 11, none⟩ = some (.int .i64 0) := by rw [HBl.out.cell]; rfl
      go_wp2_with fail
      refine HK1.out.mono ?_
      rintro e w5 ⟨rfl, hb5⟩
      have HB5 := Lib.hid (HBl.out.on hb5)
      have HO5 := Lib.hid (show w5.ownsRow w3.heap.size 49 4 (.slice a9 nl c9) nl (recsCells N) from ownsRow_mod HOw.out (Mod.of_below hb5 (S := [])) (by simp))
      have HZ5 := Lib.hid (HBz.out.trans (hb5.mono HBz.out.size))
      clear s0 s1 s2 s3 s4 s5 s6 s7 s8 s9 s10 s11 HK1 HR1 HBl HOw HBz hb5 HT1
      have s9 : w5.cell? ⟨sb, 9, none⟩ = some (.slice a9 nl c9) := by rw [HB5.out.cell]; rfl
      have HZw := Lib.hid (HB2.out.trans (HZ5.out.mono HB2.out.size))
      by_cases hn0 : nl = 0
      · have hz : ((nl : Int) == 0) = true := by simp [hn0]
        clear hn0
        go_wp2_with fail
        go_ret
        exact ⟨by try rfl, HZw.out⟩
      · have hz : ((nl : Int) == 0) = false := by simp; omega
        obtain ⟨k, hk⟩ : ∃ k, which % nl = k := ⟨_, rfl⟩
        have hkl : k < nl := by rw [← hk]; exact Nat.mod_lt _ (by omega)
        have hrem : Int.tmod (which : Int) (nl : Int) = (k : Int) := by rw [← Int.ofNat_tmod, hk]
        have hnz : ¬ ((nl : Int) = 0) := by omega
        have hww : IntKind.i64.wrap (which : Int) = (which : Int) := IntWalk.i64_in _ (by omega)
        have hwk : IntKind.i64.wrap (k : Int) = (k : Int) := IntWalk.i64_in _ (by omega)
        have hkli : (k : Int) < (nl : Int) := by omega
        obtain ⟨x, hx⟩ : ∃ x, N[k]? = some x := ⟨_, List.getElem?_eq_getElem (by rw [HNl.out]; exact hkl)⟩
        have HX := Lib.hid hx
        obtain ⟨gb, cap, rest, e9, hgb, hcap, _, hgblk⟩ := owns_blk HO5.out (by omega)
        simp only [Value.slice.injEq, true_and] at e9
        obtain ⟨rfl, rfl⟩ := e9
        have HG := Lib.hid hgblk
        have HGb := Lib.hid (show w3.heap.size ≤ gb ∧ nl ≤ c9 from ⟨hgb, hcap⟩)
        clear hk hx hgb hcap hgblk hn0
        go_upto_region 21 with fail
        clear s9
        obtain ⟨Nn, hNn⟩ : ∃ M, (if gone = true then N.take k ++ N.drop (k + 1) else N.set k { x with val := x.val ++ [120] }) = M := ⟨_, rfl⟩
        have HNn := Lib.hid hNn
        clear hNn
        have hkg : (k : Int) ≤ (c9 : Int) := by have := HGb.out.2; omega
        have hk1 : (k : Int) + 1 ≤ (nl : Int) := by omega
        have hwk1 : IntKind.i64.wrap ((k : Int) + 1) = (k : Int) + 1 := IntWalk.i64_in _ (by omega)
        have hk0 : (0 : Int) ≤ (k : Int) := by omega
        go_upto_if 81 with fail
        go_cut [] (fun wx => ∃ (a' : Option Addr) (n' c' : Nat), Blk wx sb (seCells true true (.slice a' n' c')) 47 ∧ RowsAt wx a' n' c' 4 (recsCells Nn) ∧ n' = Nn.length ∧ Below w2.heap.size w2 wx ∧ (∀ g o, a' = some ⟨g, o, none⟩ → g ≠ sb ∧ g < wx.heap.size))
        case first =>
          have hsbw : w2.heap.size = sb := HSb.out
          cases gone with
          | false =>
            have hNn := HNn.out
            rw [if_neg (by decide)] at hNn
            obtain ⟨xk, xl, xd, xv⟩ := x
            simp only at hNn
            have HF := Lib.hid (show ∀ w', Below w5.heap.size w5 w' → (w'.cell? ⟨sb, 9, none⟩ = some (.slice (some ⟨gb, 0, none⟩) nl c9) ∧ w'.cell? ⟨gb, k * 4 + 3, none⟩ = some (.string ⟨xv.toArray⟩)) from fun w' hb => by
              refine ⟨by rw [(HB5.out.on hb).cell]; rfl, ?_⟩
              rw [(HG.out.on hb).cell, List.getElem?_append_left (by rw [recs_length, HNl.out]; omega)]
              exact (recs_get _ _ _ HX.out).2.2.2)
            have hxl : ¬ (9223372036854775807 < List.length xv + 1) := by
              have := (HNok.out _ (List.mem_of_getElem? HX.out)).2.1
              simp only at this
              omega
            have hcc : (⟨xv.toArray⟩ : ByteArray) ++ ⟨#[120]⟩ = ⟨(xv ++ [120]).toArray⟩ := ByteArray.ext (by simp [ByteArray.data_append])
            have HN1 := Lib.hid hNn
            clear hNn
            go_upto_region 23 with fail
            refine wp_region_float [0, 1, 2, 3, 4, 5, 6, 7, 8, 9, 10, 11] [12] [12] (fun w' => Below w5.heap.size w5 w') (by kernel_rfl) (by kernel_rfl) (by kernel_rfl) (by kernel_rfl) (fun c a d v w h => by cases d <;> exact h) (below_drew (Below.refl _ _)) ?_
            have hS : Below w5.heap.size w5 { w5 with drawn := w5.drawn + 1 } := below_drew (Below.refl _ _)
            generalize ({ w5 with drawn := w5.drawn + 1 } : World) = w6 at *
            simp only [pick, List.map_cons, List.map_nil, List.getD_cons_zero, List.getD_cons_succ]
            repeat (
              refine takes_val (v := ?_) ?_ (fun w' hS => ?_) ?_
              rotate_left
              · rfl
              · obtain ⟨k0, k1⟩ := HF.out w' hS
                go_simp
                with_reducible rfl
              simp only [Act.put, List.setIfInBounds_toArray, List.set_cons_zero, List.set_cons_succ])
            refine takes_nil ?_
            have hG6 := HG.out.on hS
            have hB6 := HB5.out.on hS
            have hG7 := hG6.set (k * 4 + 3) (.string ⟨(xv ++ [120]).toArray⟩)
            have f6 := hG6.free (k * 4 + 3)
            have g6 : w6.cell? ⟨gb, k * 4 + 3, none⟩ = some (.string ⟨xv.toArray⟩) := (HF.out w6 hS).2
            have hne : gb ≠ sb := by have := HGb.out.1; have := HSz.out; omega
            have hm7 : Mod [gb] w6 (w6.setCell ⟨gb, k * 4 + 3, none⟩ (.string ⟨(xv ++ [120]).toArray⟩)) := (Mod.refl _ _).setCell _ _ (.inl (by simp))
            have hB7 := hB6.mod hm7 (by simp only [List.mem_singleton]; exact fun e => hne e.symm)
            have hlN : (k * 4 + 3) < (recsCells N).length := by rw [recs_length, HNl.out]; omega
            rw [List.set_append_left _ _ hlN, recs_set1 N k _ (xv ++ [120]) HX.out, HN1.out] at hG7
            have hnl2 : Nn.length = nl := by rw [← HN1.out, List.length_set, HNl.out]
            have HE := Lib.hid (show Blk (w6.setCell ⟨gb, k * 4 + 3, none⟩ (.string ⟨(xv ++ [120]).toArray⟩)) sb (seCells true true (.slice (some ⟨gb, 0, none⟩) nl c9)) 47 ∧ RowsAt (w6.setCell ⟨gb, k * 4 + 3, none⟩ (.string ⟨(xv ++ [120]).toArray⟩)) (some ⟨gb, 0, none⟩) nl c9 4 (recsCells Nn) ∧ nl = Nn.length ∧ Below w2.heap.size w2 (w6.setCell ⟨gb, k * 4 + 3, none⟩ (.string ⟨(xv ++ [120]).toArray⟩)) ∧ (∀ g o, (some ⟨gb, 0, none⟩ : Option Addr) = some ⟨g, o, none⟩ → g ≠ sb ∧ g < (w6.setCell ⟨gb, k * 4 + 3, none⟩ (.string ⟨(xv ++ [120]).toArray⟩)).heap.size) from
              ⟨hB7, RowsAt.of_blk hG7 (by rw [recs_length, hnl2]) HGb.out.2 (by omega), hnl2.symm, by
                have h1 := HGb.out.1
                have h2 := HB3.out.size
                have h3 := HZ5.out.size
                exact HZ5.out.trans ((hS.mono h3).trans (hm7.below (fun y hy => by simp only [List.mem_singleton] at hy; omega) (by have := hS.size; omega))), fun g o e => by cases e; exact ⟨hne, hG7.lt⟩⟩)
            clear hG6 hB6 hG7 hne hm7 hB7 hlN hnl2 hsbw
            refine seqW_step (by rfl) (fun K hK => ?_)
            go_simp
            refine hK.out _ _ (.inl (by rfl)) (seqW_nil ?_)
            clear hK K f6 g6
            go_wp2_with fail
            go_meet
            exact ⟨_, _, _, HE.out⟩
          | true =>
            have hNn := HNn.out
            rw [if_pos rfl] at hNn
            have HF := Lib.hid (show ∀ w', Below w5.heap.size w5 w' → (w'.cell? ⟨sb, 9, none⟩ = some (.slice (some ⟨gb, 0, none⟩) nl c9)) from fun w' hb => by rw [(HB5.out.on hb).cell]; rfl)
            have HN1 := Lib.hid hNn
            have hn9 : (nl : Int) ≤ (c9 : Int) := by have := HGb.out.2; omega
            have hk3 : (0 : Int) ≤ (k : Int) + 1 := by omega
            have j1 : (k : Int) ≤ (k : Int) + 1 := by omega
            have j2 : c9 = k + 1 → (nl : Int) ≤ (k : Int) + 1 := by omega
            have hne : gb ≠ sb := by have := HGb.out.1; have := HSz.out; omega
            have hsz : sb < w5.heap.size := HB5.out.lt
            have HNe := Lib.hid (And.intro hne hsz)
            clear hNn hne hsz hsbw
            go_upto_region 22 with fail
            by_cases hcp : c9 = k + 1
            · have j3 := j2 hcp
              refine wp_region_float [0, 1, 2, 3, 4, 5, 6, 7, 8, 9] [10, 11, 12] [12] (fun w' => Below w5.heap.size w5 w') (by kernel_rfl) (by kernel_rfl) (by kernel_rfl) (by kernel_rfl) (fun c a d v w h => by cases d <;> exact h) (below_drew (Below.refl _ _)) ?_
              have hS : Below w5.heap.size w5 { w5 with drawn := w5.drawn + 1 } := below_drew (Below.refl _ _)
              generalize ({ w5 with drawn := w5.drawn + 1 } : World) = w6 at *
              simp only [pick, List.map_cons, List.map_nil, List.getD_cons_zero, List.getD_cons_succ]
              repeat (
                refine takes_val (v := ?_) ?_ (fun w' hS => ?_) ?_
                rotate_left
                · rfl
                · have k0 := HF.out w' hS
                  go_simp
                  with_reducible rfl
                simp only [Act.put, List.setIfInBounds_toArray, List.set_cons_zero, List.set_cons_succ])
              refine takes_nil ?_
              obtain ⟨a', n', c', w7, hrun, hrow, hlen, hb7, hfr⟩ := recs_cut (HG.out.on hS) HNl.out (by omega) HGb.out.2 k (by omega) 0 (.inl hcp)
              rw [HN1.out] at hrow hlen
              have hB7 := (HB5.out.on hS).on hb7
              have hB8 := hB7.set 9 (.slice a' n' c')
              have f7 := hB7.free 9
              have g7 : w7.cell? ⟨sb, 9, none⟩ = some (.slice (some ⟨gb, 0, none⟩) nl c9) := by rw [hB7.cell]; rfl
              have hm8 : Mod [sb] w7 (w7.setCell ⟨sb, 9, none⟩ (.slice a' n' c')) := (Mod.refl _ _).setCell _ _ (.inl (by simp))
              have HE := Lib.hid (show Blk (w7.setCell ⟨sb, 9, none⟩ (.slice a' n' c')) sb (seCells true true (.slice a' n' c')) 47 ∧ RowsAt (w7.setCell ⟨sb, 9, none⟩ (.slice a' n' c')) a' n' c' 4 (recsCells Nn) ∧ n' = Nn.length ∧ Below w2.heap.size w2 (w7.setCell ⟨sb, 9, none⟩ (.slice a' n' c')) ∧ (∀ g o, a' = some ⟨g, o, none⟩ → g ≠ sb ∧ g < (w7.setCell ⟨sb, 9, none⟩ (.slice a' n' c')).heap.size) from
                ⟨hB8, hrow.mod hm8 (fun x o e => by
                  simp only [List.mem_singleton]
                  have h1 := hS.size
                  obtain ⟨h2, h3⟩ := HNe.out
                  rcases (hfr x o e).1 with h | h
                  · rw [h]; exact h2
                  · omega), hlen, by
                  have h1 := HSb.out
                  have h2 := HZ5.out.size
                  have h3 := hS.size
                  have h4 := hb7.size
                  exact HZ5.out.trans ((hS.mono h2).trans ((hb7.mono (by omega)).trans (hm8.below (fun y hy => by simp only [List.mem_singleton] at hy; omega) (by omega)))), fun x o e => by
                  have h1 := hS.size
                  obtain ⟨h2, h3⟩ := HNe.out
                  refine ⟨fun he => ?_, Nat.lt_of_lt_of_le (hfr x o e).2 hm8.size⟩
                  rcases (hfr x o e).1 with h | h
                  · exact h2 (h.symm.trans he)
                  · omega⟩)
              have HW7 := Lib.hid (hS.trans (hb7.mono hS.size))
              clear hrow hlen hb7 hfr hB7 hB8 hm8
              refine seqW_step (by rfl) (fun K hK => ?_)
              refine oper_append_run4 _ _ _ rfl _ _ _ _ ?hs ?hx hrun ?_
              case hs => go_simp
              case hx => go_simp
              simp only [Act.put, List.setIfInBounds_toArray, List.set_cons_zero, List.set_cons_succ]
              refine hK.out _ _ (.inr HW7.out) ?_
              clear hK K
              refine seqW_step (by rfl) (fun K hK => ?_)
              go_simp
              refine hK.out _ _ (.inr HW7.out) ?_
              clear hK K
              refine seqW_step (by rfl) (fun K hK => ?_)
              go_simp
              refine hK.out _ _ (.inl (by rfl)) (seqW_nil ?_)
              clear hK K hrun f7 g7
              go_wp2_with fail
              go_meet
              exact ⟨_, _, _, HE.out⟩
            · skip
              refine wp_region_float [0, 1, 2, 3, 4, 5, 6, 7, 8, 9] [10, 11, 12] [12] (fun w' => Below w5.heap.size w5 w') (by kernel_rfl) (by kernel_rfl) (by kernel_rfl) (by kernel_rfl) (fun c a d v w h => by cases d <;> exact h) (below_drew (Below.refl _ _)) ?_
              have hS : Below w5.heap.size w5 { w5 with drawn := w5.drawn + 1 } := below_drew (Below.refl _ _)
              generalize ({ w5 with drawn := w5.drawn + 1 } : World) = w6 at *
              simp only [pick, List.map_cons, List.map_nil, List.getD_cons_zero, List.getD_cons_succ]
              repeat (
                refine takes_val (v := ?_) ?_ (fun w' hS => ?_) ?_
                rotate_left
                · rfl
                · have k0 := HF.out w' hS
                  go_simp
                  with_reducible rfl
                simp only [Act.put, List.setIfInBounds_toArray, List.set_cons_zero, List.set_cons_succ])
              refine takes_nil ?_
              obtain ⟨a', n', c', w7, hrun, hrow, hlen, hb7, hfr⟩ := recs_cut (HG.out.on hS) HNl.out (by omega) HGb.out.2 k (by omega) ((k + 1) * 4) (.inr rfl)
              rw [HN1.out] at hrow hlen
              have hB7 := (HB5.out.on hS).on hb7
              have hB8 := hB7.set 9 (.slice a' n' c')
              have f7 := hB7.free 9
              have g7 : w7.cell? ⟨sb, 9, none⟩ = some (.slice (some ⟨gb, 0, none⟩) nl c9) := by rw [hB7.cell]; rfl
              have hm8 : Mod [sb] w7 (w7.setCell ⟨sb, 9, none⟩ (.slice a' n' c')) := (Mod.refl _ _).setCell _ _ (.inl (by simp))
              have HE := Lib.hid (show Blk (w7.setCell ⟨sb, 9, none⟩ (.slice a' n' c')) sb (seCells true true (.slice a' n' c')) 47 ∧ RowsAt (w7.setCell ⟨sb, 9, none⟩ (.slice a' n' c')) a' n' c' 4 (recsCells Nn) ∧ n' = Nn.length ∧ Below w2.heap.size w2 (w7.setCell ⟨sb, 9, none⟩ (.slice a' n' c')) ∧ (∀ g o, a' = some ⟨g, o, none⟩ → g ≠ sb ∧ g < (w7.setCell ⟨sb, 9, none⟩ (.slice a' n' c')).heap.size) from
                ⟨hB8, hrow.mod hm8 (fun x o e => by
                  simp only [List.mem_singleton]
                  have h1 := hS.size
                  obtain ⟨h2, h3⟩ := HNe.out
                  rcases (hfr x o e).1 with h | h
                  · rw [h]; exact h2
                  · omega), hlen, by
                  have h1 := HSb.out
                  have h2 := HZ5.out.size
                  have h3 := hS.size
                  have h4 := hb7.size
                  exact HZ5.out.trans ((hS.mono h2).trans ((hb7.mono (by omega)).trans (hm8.below (fun y hy => by simp only [List.mem_singleton] at hy; omega) (by omega)))), fun x o e => by
                  have h1 := hS.size
                  obtain ⟨h2, h3⟩ := HNe.out
                  refine ⟨fun he => ?_, Nat.lt_of_lt_of_le (hfr x o e).2 hm8.size⟩
                  rcases (hfr x o e).1 with h | h
                  · exact h2 (h.symm.trans he)
                  · omega⟩)
              have HW7 := Lib.hid (hS.trans (hb7.mono hS.size))
              clear hrow hlen hb7 hfr hB7 hB8 hm8
              refine seqW_step (by rfl) (fun K hK => ?_)
              refine oper_append_run4 _ _ _ rfl _ _ _ _ ?hs ?hx hrun ?_
              case hs => go_simp
              case hx => go_simp
              simp only [Act.put, List.setIfInBounds_toArray, List.set_cons_zero, List.set_cons_succ]
              refine hK.out _ _ (.inr HW7.out) ?_
              clear hK K
              refine seqW_step (by rfl) (fun K hK => ?_)
              go_simp
              refine hK.out _ _ (.inr HW7.out) ?_
              clear hK K
              refine seqW_step (by rfl) (fun K hK => ?_)
              go_simp
              refine hK.out _ _ (.inl (by rfl)) (seqW_nil ?_)
              clear hK K hrun f7 g7
              go_wp2_with fail
              go_meet
              exact ⟨_, _, _, HE.out⟩
        obtain ⟨a', n', c', hBx, hRx, hnx, hZx, hAo⟩ := hcut
        generalize wc = wx at *
        have HBx := Lib.hid hBx
        have HRx := Lib.hid hRx
        have HZx := Lib.hid hZx
        have HAo0 := Lib.hid hAo
        clear hAo
        have hNl5 : Nn.length ≤ 5 := by
          rw [← HNn.out]
          have := HNl.out
          cases gone with
          | true => rw [if_pos rfl, List.length_append, List.length_take, List.length_drop]; omega
          | false => rw [if_neg (by decide), List.length_set]; omega
        have hNok2 : ∀ r ∈ Nn, r.ok := by
          have hok : ∀ r ∈ N, r.ok := fun r hr => by
            obtain ⟨h1, h2, h3⟩ := HNok.out r hr
            exact ⟨by unfold maxLen; omega, by unfold maxLen; omega, by omega⟩
          rw [← HNn.out]
          cases gone with
          | true =>
            rw [if_pos rfl]
            intro r hr
            rcases List.mem_append.1 hr with h | h
            · exact hok r (List.mem_of_mem_take h)
            · exact hok r (List.mem_of_mem_drop h)
          | false =>
            rw [if_neg (by decide)]
            intro r hr
            rcases List.mem_or_eq_of_mem_set hr with h | h
            · exact hok r h
            · obtain ⟨h1, h2, h3⟩ := HNok.out _ (List.mem_of_getElem? HX.out)
              subst h
              exact ⟨by show x.key.length ≤ maxLen; unfold maxLen; omega, by show (x.val ++ [120]).length ≤ maxLen; rw [List.length_append]; show x.val.length + 1 ≤ maxLen; unfold maxLen; omega, by show x.lsn < 18446744073709551616; omega⟩
        obtain ⟨v, hv⟩ : ∃ v, treeL true 100 100 100 Nn A = v := ⟨_, rfl⟩
        have hv0 : v ≥ 0 ∧ (gone = false → v = (k : Int)) := by
          rw [← hv, ← HNn.out]
          cases gone with
          | true => rw [if_pos rfl]; exact ⟨HT2.out k (by rw [HNl.out]; exact hkl), fun h => by cases h⟩
          | false =>
            rw [if_neg (by decide), HT3.out k x HX.out]
            exact ⟨by omega, fun _ => rfl⟩
        have HV0 := Lib.hid hv0
        have HK1 := Lib.hid (HTK.out wx true true a' n' c' Nn v hZx hRx hnx (by omega) hNok2 hv)
        have HK2 := Lib.hid (fun (w' : World) (hb : Below w2.heap.size w2 w') (hr : RowsAt w' a' n' c' 4 (recsCells Nn)) => HTK.out w' false true a' n' c' Nn (-1) hb hr hnx (by omega) hNok2 (by simp [treeL]))
        have HK3 := Lib.hid (fun (w' : World) (hb : Below w2.heap.size w2 w') (hr : RowsAt w' a' n' c' 4 (recsCells Nn)) => HTK.out w' true false a' n' c' Nn (-1) hb hr hnx (by omega) hNok2 (by simp [treeL]))
        clear hBx hRx hnx hZx hNl5 hNok2 hv hv0 HTK HT2 HT3 HX HG HGb HNn HNl HNok HO5 HB5 HZ5 HGood
        have s0 : wx.cell? ⟨sb, 0, none⟩ = some (.bool true) := by rw [HBx.out.cell]; rfl
        have s1 : wx.cell? ⟨sb, 1, none⟩ = some (.bool true) := by rw [HBx.out.cell]; rfl
        have s2 : wx.cell? ⟨sb, 2, none⟩ = some (.bool false) := by rw [HBx.out.cell]; rfl
        have s3 : wx.cell? ⟨sb, 3, none⟩ = some (.bool true) := by rw [HBx.out.cell]; rfl
        have s4 : wx.cell? ⟨sb, 4, none⟩ = some (.int .u64 0) := by rw [HBx.out.cell]; rfl
        have s5 : wx.cell? ⟨sb, 5, none⟩ = some (.int .u64 100) := by rw [HBx.out.cell]; rfl
        have s6 : wx.cell? ⟨sb, 6, none⟩ = some (.int .u64 100) := by rw [HBx.out.cell]; rfl
        have s7 : wx.cell? ⟨sb, 7, none⟩ = some (.int .u64 100) := by rw [HBx.out.cell]; rfl
        have s8 : wx.cell? ⟨sb, 8, none⟩ = some (.int .u64 100) := by rw [HBx.out.cell]; rfl
        have s9 : wx.cell? ⟨sb, 9, none⟩ = some (.slice a' n' c') := by rw [HBx.out.cell]; rfl
        have s10 : wx.cell? ⟨sb, 10, none⟩ = some (.slice none 0 0) := by rw [HBx.out.cell]; rfl
        have s11 : wx.cell? ⟨sb, 11, none⟩ = some (.int .i64 0) := by rw [HBx.out.cell]; rfl
        go_upto_region 25 with fail
        refine HK1.out.mono ?_
        rintro e w8 ⟨rfl, hb8⟩
        have HB8 := Lib.hid (HBx.out.on hb8)
        have HR8 := Lib.hid (HRx.out.on hb8)
        have HSx := Lib.hid hb8.size
        have HZ8 := Lib.hid (HZx.out.trans (hb8.mono HZx.out.size))
        clear hb8 HBx HRx HZx HK1 s0 s1 s2 s3 s4 s5 s6 s7 s8 s9 s10 s11
        have s0 : w8.cell? ⟨sb, 0, none⟩ = some (.bool true) := by rw [HB8.out.cell]; rfl
        have s1 : w8.cell? ⟨sb, 1, none⟩ = some (.bool true) := by rw [HB8.out.cell]; rfl
        have s2 : w8.cell? ⟨sb, 2, none⟩ = some (.bool false) := by rw [HB8.out.cell]; rfl
        have s3 : w8.cell? ⟨sb, 3, none⟩ = some (.bool true) := by rw [HB8.out.cell]; rfl
        have s4 : w8.cell? ⟨sb, 4, none⟩ = some (.int .u64 0) := by rw [HB8.out.cell]; rfl
        have s5 : w8.cell? ⟨sb, 5, none⟩ = some (.int .u64 100) := by rw [HB8.out.cell]; rfl
        have s6 : w8.cell? ⟨sb, 6, none⟩ = some (.int .u64 100) := by rw [HB8.out.cell]; rfl
        have s7 : w8.cell? ⟨sb, 7, none⟩ = some (.int .u64 100) := by rw [HB8.out.cell]; rfl
        have s8 : w8.cell? ⟨sb, 8, none⟩ = some (.int .u64 100) := by rw [HB8.out.cell]; rfl
        have s9 : w8.cell? ⟨sb, 9, none⟩ = some (.slice a' n' c') := by rw [HB8.out.cell]; rfl
        have s10 : w8.cell? ⟨sb, 10, none⟩ = some (.slice none 0 0) := by rw [HB8.out.cell]; rfl
        have s11 : w8.cell? ⟨sb, 11, none⟩ = some (.int .i64 0) := by rw [HB8.out.cell]; rfl
        go_upto_region 26 with fail
        have hT := Blk.new w8 (seCells true true (.slice a' n' c')) 47
        have hbT := (Below.refl w8.heap.size w8).alloc (Nat.le_refl _) (.cells (seCells true true (.slice a' n' c')).toArray 47)
        obtain ⟨tb, htb⟩ : ∃ x, w8.heap.size = x := ⟨_, rfl⟩
        have htl : w2.heap.size ≤ tb ∧ sb < tb := by
          have h1 := HZ8.out.size
          have h2 := HB8.out.lt
          omega
        rw [htb] at hT
        simp only [htb]
        change Code.wp _ _ _ _ (w8.alloc (.cells (seCells true true (.slice a' n' c')).toArray 47))
        clear s0 s1 s2 s3 s4 s5 s6 s7 s8 s9 s10 s11
        generalize w8.alloc (.cells (seCells true true (.slice a' n' c')).toArray 47) = w9 at *
        have hS9 := HB8.out.on hbT
        have hR9 := HR8.out.on hbT
        have hZ9 := HZ8.out.trans (hbT.mono HZ8.out.size)
        have hne : tb ≠ sb := by omega
        have f3 := hT.free 3
        have g3 : w9.cell? ⟨tb, 3, none⟩ = some (.bool true) := by rw [hT.cell]; rfl
        have hT10 := hT.set 3 (.bool false)
        have hS10 := hS9.other ⟨tb, 3, none⟩ (.bool false) (fun e => hne e.symm)
        have f1 := hS10.free 1
        have g1 : (w9.setCell ⟨tb, 3, none⟩ (.bool false)).cell? ⟨sb, 1, none⟩ = some (.bool true) := by rw [hS10.cell]; rfl
        have hS11 := hS10.set 1 (.bool false)
        have hT11 := hT10.other ⟨sb, 1, none⟩ (.bool false) hne
        have hm : Mod [tb, sb] w9 ((w9.setCell ⟨tb, 3, none⟩ (.bool false)).setCell ⟨sb, 1, none⟩ (.bool false)) := ((Mod.refl _ _).setCell _ _ (.inl (by simp))).setCell _ _ (.inl (by simp))
        have htl2 : w2.heap.size ≤ sb := by rw [HSb.out]; exact Nat.le_refl _
        have hb11 : Below w2.heap.size w2 ((w9.setCell ⟨tb, 3, none⟩ (.bool false)).setCell ⟨sb, 1, none⟩ (.bool false)) :=
          hZ9.trans (hm.below (fun y hy => by simp only [List.mem_cons, List.not_mem_nil, or_false] at hy; omega) hZ9.size)
        have hR11 : RowsAt ((w9.setCell ⟨tb, 3, none⟩ (.bool false)).setCell ⟨sb, 1, none⟩ (.bool false)) a' n' c' 4 (recsCells Nn) := hR9.mod hm (fun g o e => by
          obtain ⟨h1, h2⟩ := HAo0.out g o e
          have h3 := HSx.out
          simp only [List.mem_cons, List.not_mem_nil, or_false]
          omega)
        have HS11 := Lib.hid (show Blk ((w9.setCell ⟨tb, 3, none⟩ (.bool false)).setCell ⟨sb, 1, none⟩ (.bool false)) sb (seCells false true (.slice a' n' c')) 47 from hS11)
        have HT11 := Lib.hid (show Blk ((w9.setCell ⟨tb, 3, none⟩ (.bool false)).setCell ⟨sb, 1, none⟩ (.bool false)) tb (seCells true false (.slice a' n' c')) 47 from hT11)
        have HB11 := Lib.hid hb11
        have HR11 := Lib.hid hR11
        clear hT hbT htb htl hS9 hR9 hZ9 hne hT10 hS10 hS11 hT11 hm htl2 hb11 hR11 HB8 HR8 HZ8
        go_upto_region 28 with fail
        clear f1 g1 f3 g3
        generalize (w9.setCell ⟨tb, 3, none⟩ (.bool false)).setCell ⟨sb, 1, none⟩ (.bool false) = w11 at *
        have HC2 := Lib.hid (HK2.out w11 HB11.out HR11.out)
        have HTr := Lib.hid (HB2.out.trans (HB11.out.mono HB2.out.size))
        obtain ⟨hv0, hvk⟩ := HV0.out
        have s0 : w11.cell? ⟨sb, 0, none⟩ = some (.bool true) := by rw [HS11.out.cell]; rfl
        have s1 : w11.cell? ⟨sb, 1, none⟩ = some (.bool false) := by rw [HS11.out.cell]; rfl
        have s2 : w11.cell? ⟨sb, 2, none⟩ = some (.bool false) := by rw [HS11.out.cell]; rfl
        have s3 : w11.cell? ⟨sb, 3, none⟩ = some (.bool true) := by rw [HS11.out.cell]; rfl
        have s4 : w11.cell? ⟨sb, 4, none⟩ = some (.int .u64 0) := by rw [HS11.out.cell]; rfl
        have s5 : w11.cell? ⟨sb, 5, none⟩ = some (.int .u64 100) := by rw [HS11.out.cell]; rfl
        have s6 : w11.cell? ⟨sb, 6, none⟩ = some (.int .u64 100) := by rw [HS11.out.cell]; rfl
        have s7 : w11.cell? ⟨sb, 7, none⟩ = some (.int .u64 100) := by rw [HS11.out.cell]; rfl
        have s8 : w11.cell? ⟨sb, 8, none⟩ = some (.int .u64 100) := by rw [HS11.out.cell]; rfl
        have s9 : w11.cell? ⟨sb, 9, none⟩ = some (.slice a' n' c') := by rw [HS11.out.cell]; rfl
        have s10 : w11.cell? ⟨sb, 10, none⟩ = some (.slice none 0 0) := by rw [HS11.out.cell]; rfl
        have s11 : w11.cell? ⟨sb, 11, none⟩ = some (.int .i64 0) := by rw [HS11.out.cell]; rfl
        cases gone with
        | true =>
          clear hvk
          go_wp2_with fail
          refine HC2.out.mono ?_
          rintro e w12 ⟨rfl, hb12⟩
          have HC3 := Lib.hid (HK3.out w12 (HB11.out.trans (hb12.mono HB11.out.size)) (HR11.out.on hb12))
          have HT12 := Lib.hid (HT11.out.on hb12)
          have HTr12 := Lib.hid (HTr.out.trans (hb12.mono HTr.out.size))
          clear hb12 s0 s1 s2 s3 s4 s5 s6 s7 s8 s9 s10 s11
          have s0 : w12.cell? ⟨tb, 0, none⟩ = some (.bool true) := by rw [HT12.out.cell]; rfl
          have s1 : w12.cell? ⟨tb, 1, none⟩ = some (.bool true) := by rw [HT12.out.cell]; rfl
          have s2 : w12.cell? ⟨tb, 2, none⟩ = some (.bool false) := by rw [HT12.out.cell]; rfl
          have s3 : w12.cell? ⟨tb, 3, none⟩ = some (.bool false) := by rw [HT12.out.cell]; rfl
          have s4 : w12.cell? ⟨tb, 4, none⟩ = some (.int .u64 0) := by rw [HT12.out.cell]; rfl
          have s5 : w12.cell? ⟨tb, 5, none⟩ = some (.int .u64 100) := by rw [HT12.out.cell]; rfl
          have s6 : w12.cell? ⟨tb, 6, none⟩ = some (.int .u64 100) := by rw [HT12.out.cell]; rfl
          have s7 : w12.cell? ⟨tb, 7, none⟩ = some (.int .u64 100) := by rw [HT12.out.cell]; rfl
          have s8 : w12.cell? ⟨tb, 8, none⟩ = some (.int .u64 100) := by rw [HT12.out.cell]; rfl
          have s9 : w12.cell? ⟨tb, 9, none⟩ = some (.slice a' n' c') := by rw [HT12.out.cell]; rfl
          have s10 : w12.cell? ⟨tb, 10, none⟩ = some (.slice none 0 0) := by rw [HT12.out.cell]; rfl
          have s11 : w12.cell? ⟨tb, 11, none⟩ = some (.int .i64 0) := by rw [HT12.out.cell]; rfl
          go_wp2_with fail
          refine HC3.out.mono ?_
          rintro e w13 ⟨rfl, hb13⟩
          have HTr13 := Lib.hid (HTr12.out.trans (hb13.mono HTr12.out.size))
          clear hb13 s0 s1 s2 s3 s4 s5 s6 s7 s8 s9 s10 s11
          go_wp2_with fail
          go_ret
          exact ⟨by try rfl, HTr13.out⟩
        | false =>
          have hvk2 := hvk rfl
          clear hvk
          have hveq : (v == (k : Int)) = true := by simp [hvk2]
          clear hvk2
          go_wp2_with fail
          refine HC2.out.mono ?_
          rintro e w12 ⟨rfl, hb12⟩
          have HC3 := Lib.hid (HK3.out w12 (HB11.out.trans (hb12.mono HB11.out.size)) (HR11.out.on hb12))
          have HT12 := Lib.hid (HT11.out.on hb12)
          have HTr12 := Lib.hid (HTr.out.trans (hb12.mono HTr.out.size))
          clear hb12 s0 s1 s2 s3 s4 s5 s6 s7 s8 s9 s10 s11
          have s0 : w12.cell? ⟨tb, 0, none⟩ = some (.bool true) := by rw [HT12.out.cell]; rfl
          have s1 : w12.cell? ⟨tb, 1, none⟩ = some (.bool true) := by rw [HT12.out.cell]; rfl
          have s2 : w12.cell? ⟨tb, 2, none⟩ = some (.bool false) := by rw [HT12.out.cell]; rfl
          have s3 : w12.cell? ⟨tb, 3, none⟩ = some (.bool false) := by rw [HT12.out.cell]; rfl
          have s4 : w12.cell? ⟨tb, 4, none⟩ = some (.int .u64 0) := by rw [HT12.out.cell]; rfl
          have s5 : w12.cell? ⟨tb, 5, none⟩ = some (.int .u64 100) := by rw [HT12.out.cell]; rfl
          have s6 : w12.cell? ⟨tb, 6, none⟩ = some (.int .u64 100) := by rw [HT12.out.cell]; rfl
          have s7 : w12.cell? ⟨tb, 7, none⟩ = some (.int .u64 100) := by rw [HT12.out.cell]; rfl
          have s8 : w12.cell? ⟨tb, 8, none⟩ = some (.int .u64 100) := by rw [HT12.out.cell]; rfl
          have s9 : w12.cell? ⟨tb, 9, none⟩ = some (.slice a' n' c') := by rw [HT12.out.cell]; rfl
          have s10 : w12.cell? ⟨tb, 10, none⟩ = some (.slice none 0 0) := by rw [HT12.out.cell]; rfl
          have s11 : w12.cell? ⟨tb, 11, none⟩ = some (.int .i64 0) := by rw [HT12.out.cell]; rfl
          go_wp2_with fail
          refine HC3.out.mono ?_
          rintro e w13 ⟨rfl, hb13⟩
          have HTr13 := Lib.hid (HTr12.out.trans (hb13.mono HTr12.out.size))
          clear hb13 s0 s1 s2 s3 s4 s5 s6 s7 s8 s9 s10 s11
          go_wp2_with fail
          go_ret
          exact ⟨by try rfl, HTr13.out⟩
end Go.Proofs.YtecknikehieioaaGreat
