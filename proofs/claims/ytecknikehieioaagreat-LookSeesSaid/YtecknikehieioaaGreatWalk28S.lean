/-
  Texts folded into one: RefS, RefT, RefQ, RefN, CutR, Walk28S.
-/
import Derived.Test.YtecknikehieioaaGreatLookC
import Derived.Deep.DeepCutAuto
import Derived.Deep.CutBlock
import Derived.Test.YtecknikehieioaaGreatLookY

/-! ### RefS -/
namespace Go.Proofs.YtecknikehieioaaGreat
set_option linter.unusedVariables false
set_option linter.unusedSimpArgs false
open Go.RowKit Go.Maps

theorem ret_bool {a b : Bool} (h : a = b) : Ending.returned (.bool a) = .returned (.bool b) := by rw [h]
set_option maxHeartbeats 1000000 in
theorem run_eql_rec (x y : Rec) (w : World) : (binOp .eql 49 (recV x) (recV y)).run Tryz.prog w = .ok (.bool (decide (x = y))) w := by
  have u1 := Tryz.underlying9
  have u2 := Tryz.underlying32
  have u3 := Tryz.underlying4
  have hS : Tryz.prog.underlying 49 = some (.struct (Tryz.prog.fieldsOf 49)) := by kernel_rfl
  have hp : Tryz.prog.stoodInHeld 49 = false := by kernel_rfl
  unfold recV
  rw [run_eql_struct, show (10000 : Nat) = 9999 + 1 from rfl, run_equalIn_agg w 9999 49 _ _ hS hp]
  simp only [Program.fieldsOf, Tryz.underlying49]
  have a1 := Tryz.isAgg9
  have a2 := Tryz.isAgg32
  have a3 := Tryz.isAgg4
  have z1 := Tryz.sizeOf9
  have z2 := Tryz.sizeOf32
  have z3 := Tryz.sizeOf4
  have bb := bytes_tl
  go_simp
  obtain ⟨xk, xl, xd, xv⟩ := x
  obtain ⟨yk, yl, yd, yv⟩ := y
  have hl : ((xl : Int) = (yl : Int)) ↔ xl = yl := Int.ofNat_inj
  simp only [hl, Rec.mk.injEq]
  by_cases h1 : xk = yk <;> by_cases h2 : xl = yl <;> by_cases h3 : xd = yd <;> by_cases h4 : xv = yv <;> simp [h1, h2, h3, h4]
theorem lessR_cons (x : UInt8) (a b : List UInt8) : Op.bytesLess (x :: a) (x :: b) = Op.bytesLess a b := by
  simp [Op.bytesLess]
theorem lessR_drop : ∀ (k : Nat) (a b : List UInt8), k ≤ a.length → k ≤ b.length → a.take k = b.take k → Op.bytesLess a b = Op.bytesLess (a.drop k) (b.drop k)
  | 0, a, b, _, _, _ => rfl
  | k + 1, [], b, h, _, _ => by simp at h
  | k + 1, x :: a, [], _, h, _ => by simp at h
  | k + 1, x :: a, y :: b, h1, h2, h => by
    simp only [List.take_succ_cons, List.cons.injEq] at h
    obtain ⟨rfl, h⟩ := h
    rw [lessR_cons, List.drop_succ_cons, List.drop_succ_cons]
    exact lessR_drop k a b (by simpa using h1) (by simpa using h2) h
set_option maxHeartbeats 1000000 in
theorem lessR_any (a b : List UInt8) (w : World) (ha : a.length ≤ 9223372036854775807) (hb : b.length ≤ 9223372036854775807) :
    Calls Tryz.prog 43 #[.string ⟨a.toArray⟩, .string ⟨b.toArray⟩] w fun e w' => e = .returned (.bool (Op.bytesLess a b)) ∧ Below w.heap.size w w' := by
  go_enter Tryz.func43, Tryz.ntmps43
  go_wp2_with fail
  go_loopw [5] (fun s5 wr => ∃ k : Nat, s5 = .int .i64 k ∧ k ≤ a.length ∧ k ≤ b.length ∧ Below w.heap.size w wr ∧ a.take k = b.take k) (fun s5 _ => a.length - (intOf s5).toNat)
  case atStart => exact ⟨0, rfl, by omega, by omega, Below.refl _ _, rfl⟩
  case round =>
    obtain ⟨k, rfl, hka, hkb, hbr, heq⟩ := hrel
    have hless := lessR_drop k a b hka hkb heq
    have HE := Lib.hid heq
    clear heq
    by_cases h1 : k < a.length
    · by_cases h2 : k < b.length
      · obtain ⟨x, hx⟩ : ∃ x, a[k] = x := ⟨_, rfl⟩
        obtain ⟨y, hy⟩ : ∃ y, b[k] = y := ⟨_, rfl⟩
        rw [List.drop_eq_getElem_cons h1, List.drop_eq_getElem_cons h2, hx, hy] at hless
        have HL := Lib.hid hless
        clear hless
        have gx : (⟨a.toArray⟩ : ByteArray)[k]'(by simpa [ByteArray.size] using h1) = x := by rw [← hx]; show a.toArray[k] = _; simp
        have gy : (⟨b.toArray⟩ : ByteArray)[k]'(by simpa [ByteArray.size] using h2) = y := by rw [← hy]; show b.toArray[k] = _; simp
        by_cases hxy : x = y
        · subst hxy
          have HT := Lib.hid (show a.take (k + 1) = b.take (k + 1) by rw [List.take_succ_eq_append_getElem h1, List.take_succ_eq_append_getElem h2, HE.out, hx, hy])
          go_upto_region 4 with fail
          refine wp_region_settle (Below wr.heap.size wr) (by kernel_rfl) (by kernel_rfl) (by kernel_rfl) (below_drew (Below.refl _ _)) ?_
          repeat (first
            | (refine settled_not ?_ ?_
               · rfl
               simp only [Act.put, List.setIfInBounds_toArray, List.set_cons_zero, List.set_cons_succ])
            | (refine settled_val (v := ?_) ?_ (fun w' hS => ?_) ?_
               rotate_left
               · rfl
               · skip
                 go_simp
                 with_reducible rfl
               simp only [Act.put, List.setIfInBounds_toArray, List.set_cons_zero, List.set_cons_succ]))
          refine settled_nil (fun w' hS => ?_)
          go_wp2_with fail
          refine ⟨⟨k + 1, by simp, by omega, by omega, hbr.on hS, HT.out⟩, by simp [intOf]; omega⟩
        · have hc : ((x.toNat : Int) != (y.toNat : Int)) = true := by
            have : x.toNat ≠ y.toNat := fun e => hxy (UInt8.toNat_inj.1 e)
            simp; omega
          have HH := Lib.hid (show Op.bytesLess a b = decide (x.toNat < y.toNat) by
            rw [HL.out]
            have : (x == y) = false := by simpa using hxy
            simp [Op.bytesLess, this, UInt8.lt_iff_toNat_lt])
          go_upto_region 4 with fail
          refine wp_region_settle (Below wr.heap.size wr) (by kernel_rfl) (by kernel_rfl) (by kernel_rfl) (below_drew (Below.refl _ _)) ?_
          repeat (first
            | (refine settled_not ?_ ?_
               · rfl
               simp only [Act.put, List.setIfInBounds_toArray, List.set_cons_zero, List.set_cons_succ])
            | (refine settled_val (v := ?_) ?_ (fun w' hS => ?_) ?_
               rotate_left
               · rfl
               · skip
                 go_simp
                 with_reducible rfl
               simp only [Act.put, List.setIfInBounds_toArray, List.set_cons_zero, List.set_cons_succ]))
          refine settled_nil (fun w' hS => ?_)
          go_upto_region 5 with fail
          refine wp_region_settle (Below wr.heap.size wr) (by kernel_rfl) (by kernel_rfl) (by kernel_rfl) (below_drew hS) ?_
          repeat (first
            | (refine settled_not ?_ ?_
               · rfl
               simp only [Act.put, List.setIfInBounds_toArray, List.set_cons_zero, List.set_cons_succ])
            | (refine settled_val (v := ?_) ?_ (fun w' hS => ?_) ?_
               rotate_left
               · rfl
               · skip
                 go_simp
                 with_reducible rfl
               simp only [Act.put, List.setIfInBounds_toArray, List.set_cons_zero, List.set_cons_succ]))
          refine settled_nil (fun w' hS => ?_)
          go_wp2_with fail
          go_ret
          rw [HH.out]
          exact ⟨rfl, hbr.on hS⟩
      · have HH := Lib.hid (show Op.bytesLess a b = false by
          rw [hless, List.drop_of_length_le (by omega : b.length ≤ k)]
          cases a.drop k <;> rfl)
        clear hless
        go_wp2_with fail
        go_ret
        rw [HH.out]
        exact ⟨ret_bool (show decide (a.length < b.length) = _ by simp; omega), hbr⟩
    · by_cases h2 : k < b.length
      · have HH := Lib.hid (show Op.bytesLess a b = true by
          rw [hless, List.drop_of_length_le (by omega : a.length ≤ k), List.drop_eq_getElem_cons h2]
          rfl)
        clear hless
        go_wp2_with fail
        go_ret
        rw [HH.out]
        exact ⟨ret_bool (show decide (a.length < b.length) = _ by simp; omega), hbr⟩
      · have HH := Lib.hid (show Op.bytesLess a b = false by
          rw [hless, List.drop_of_length_le (by omega : b.length ≤ k)]
          cases a.drop k <;> rfl)
        clear hless
        go_wp2_with fail
        go_ret
        rw [HH.out]
        exact ⟨ret_bool (show decide (a.length < b.length) = _ by simp; omega), hbr⟩
set_option maxRecDepth 100000 in
set_option maxHeartbeats 4000000 in
theorem in_any (w : World) (a : Option Addr) (n c : Nat) (W : List Rec) (h : RowsAt w a n c 4 (recsCells W)) (hn : n = W.length) (r : Rec) :
    Calls Tryz.prog 42 #[.slice a n c, .agg (recCells r).toArray] w fun e w' => e = .returned (.bool (isR W r)) ∧ Below w.heap.size w w' := by
  have hmax := h.max
  obtain ⟨rk, rl, rd, rv⟩ := r
  have HH := Lib.hid h
  have HN := Lib.hid hn
  clear h hn
  obtain ⟨res, hres⟩ : ∃ b, isR W ⟨rk, rl, rd, rv⟩ = b := ⟨_, rfl⟩
  rw [hres]
  have HRes := Lib.hid hres
  clear hres
  show Calls Tryz.prog 42 #[.slice a n c, .agg #[.string ⟨rk.toArray⟩, .int .u64 (rl : Nat), .bool rd, .string ⟨rv.toArray⟩]] w _
  go_enter Tryz.func42, Tryz.ntmps42
  go_upto_region 1 with fail
  have hB := Blk.new w (recCells ⟨rk, rl, rd, rv⟩) 49
  have hW1 := HH.out.on ((Below.refl w.heap.size w).alloc (Nat.le_refl _) (.cells (recCells ⟨rk, rl, rd, rv⟩).toArray 49))
  have hb0 := (Below.refl w.heap.size w).alloc (Nat.le_refl _) (.cells (recCells ⟨rk, rl, rd, rv⟩).toArray 49)
  obtain ⟨bb, hbb⟩ : ∃ x, w.heap.size = x := ⟨_, rfl⟩
  rw [hbb] at hB
  simp only [hbb]
  change Code.wp _ _ _ _ (w.alloc (.cells (recCells ⟨rk, rl, rd, rv⟩).toArray 49))
  have HBb := Lib.hid hbb
  generalize w.alloc (.cells (recCells ⟨rk, rl, rd, rv⟩).toArray 49) = w1 at *
  have HB := Lib.hid hB
  have HB0 := Lib.hid hb0
  have HW1 := Lib.hid hW1
  clear hW1 hB hb0 hbb HH
  go_wp2_with fail
  go_loopw [5] (fun s5 wr => ∃ k : Nat, k ≤ n ∧ s5 = .int .i64 k ∧ isR (W.take k) ⟨rk, rl, rd, rv⟩ = false ∧ Below w1.heap.size w1 wr) (fun s5 _ => n - (intOf s5).toNat)
  case atStart => exact ⟨0, by omega, rfl, rfl, Below.refl _ _⟩
  case round =>
    obtain ⟨k, hk, rfl, hno, hb⟩ := hrel
    have HNo := Lib.hid hno
    have HBr := Lib.hid hb
    have HT := Lib.hid (show Below w.heap.size w wr from by
      have h2 := HB0.out
      exact h2.trans (hb.mono h2.size))
    clear hno hb
    by_cases hkn : k < n
    · have hkl : (k : Int) < (n : Int) := by omega
      obtain ⟨q, g, o, hq, _, e2, hqc⟩ := recs_rowB HW1.out HN.out hkn
      have HNx := Lib.hid (show isR (W.take (k + 1)) ⟨rk, rl, rd, rv⟩ = (isR (W.take k) ⟨rk, rl, rd, rv⟩ || decide (q = (⟨rk, rl, rd, rv⟩ : Rec))) from any_next (fun q => decide (q = (⟨rk, rl, rd, rv⟩ : Rec))) W k q hq)
      have HIn := Lib.hid (show decide (q = (⟨rk, rl, rd, rv⟩ : Rec)) = true → isR W ⟨rk, rl, rd, rv⟩ = true from fun h => by
        unfold isR
        exact List.any_eq_true.2 ⟨q, List.mem_of_getElem? hq, h⟩)
      have HQC := Lib.hid hqc
      obtain ⟨qk, ql, qd, qv⟩ := q
      clear hq hqc
      subst e2
      have hcmp : ∀ w, _ := fun w => run_eql_rec ⟨qk, ql, qd, qv⟩ ⟨rk, rl, rd, rv⟩ w
      unfold recV at hcmp
      simp only at hcmp
      have HF := Lib.hid (show ∀ w', Below wr.heap.size wr w' → (w'.cell? ⟨bb, 0, none⟩ = some (.string ⟨rk.toArray⟩) ∧ w'.cell? ⟨bb, 1, none⟩ = some (.int .u64 (rl : Nat)) ∧ w'.cell? ⟨bb, 2, none⟩ = some (.bool rd) ∧ w'.cell? ⟨bb, 3, none⟩ = some (.string ⟨rv.toArray⟩)) from fun w' hb => by
        have hh := (HB.out.on HBr.out).on hb
        refine ⟨?_, ?_, ?_, ?_⟩ <;> (rw [hh.cell]; rfl))
      generalize decide ((⟨qk, ql, qd, qv⟩ : Rec) = ⟨rk, rl, rd, rv⟩) = bq at *
      cases bq with
      | true =>
        have HX := Lib.hid (show res = true by rw [← HRes.out]; exact HIn.out rfl)
        go_upto_region 4 with fail
        refine wp_region_settle (Below wr.heap.size wr) (by kernel_rfl) (by kernel_rfl) (by kernel_rfl) (below_drew (Below.refl _ _)) ?_
        repeat (first
          | (refine settled_not ?_ ?_
             · rfl
             simp only [Act.put, List.setIfInBounds_toArray, List.set_cons_zero, List.set_cons_succ])
          | (refine settled_val (v := ?_) ?_ (fun w' hS => ?_) ?_
             rotate_left
             · rfl
             · obtain ⟨k0, k1, k2, k3⟩ := HQC.out w' (HBr.out.trans (hS.mono HBr.out.size))
               obtain ⟨m0, m1, m2, m3⟩ := HF.out w' hS
               simp only at k0 k1 k2 k3
               go_simp
               with_reducible rfl
             simp only [Act.put, List.setIfInBounds_toArray, List.set_cons_zero, List.set_cons_succ]))
        refine settled_nil (fun w2 hS => ?_)
        have HE := Lib.hid (HT.out.trans (hS.mono HT.out.size))
        clear hS
        go_wp2_with fail
        go_ret
        rw [HX.out]
        exact ⟨by try rfl, HE.out⟩
      | false =>
        have HX := Lib.hid (show isR (W.take (k + 1)) ⟨rk, rl, rd, rv⟩ = false by rw [HNx.out, HNo.out]; rfl)
        go_upto_region 4 with fail
        refine wp_region_settle (Below wr.heap.size wr) (by kernel_rfl) (by kernel_rfl) (by kernel_rfl) (below_drew (Below.refl _ _)) ?_
        repeat (first
          | (refine settled_not ?_ ?_
             · rfl
             simp only [Act.put, List.setIfInBounds_toArray, List.set_cons_zero, List.set_cons_succ])
          | (refine settled_val (v := ?_) ?_ (fun w' hS => ?_) ?_
             rotate_left
             · rfl
             · obtain ⟨k0, k1, k2, k3⟩ := HQC.out w' (HBr.out.trans (hS.mono HBr.out.size))
               obtain ⟨m0, m1, m2, m3⟩ := HF.out w' hS
               simp only at k0 k1 k2 k3
               go_simp
               with_reducible rfl
             simp only [Act.put, List.setIfInBounds_toArray, List.set_cons_zero, List.set_cons_succ]))
        refine settled_nil (fun w2 hS => ?_)
        have HE := Lib.hid (HBr.out.trans (hS.mono HBr.out.size))
        clear hS
        go_wp2_with fail
        go_roundw
        case rel => exact ⟨k + 1, by omega, by go_num, HX.out, HE.out⟩
        case measure => simp [intOf]; omega
    · have hkl : ¬ (k : Int) < (n : Int) := by omega
      have HX := Lib.hid (show res = false by
        have := HNo.out
        rw [List.take_of_length_le (by have := HN.out; omega)] at this
        rw [← HRes.out]; exact this)
      go_wp2_with fail
      go_ret
      rw [HX.out]
      exact ⟨by try rfl, HT.out⟩
theorem append_nought2 (t e ty : TypeId) (ht : Tryz.prog.underlying t = some (.slice e)) (hinf : ∃ i, Tryz.prog.info? e = some i) (w : World) (p : Option Addr) (n cap : Nat) (x : Option Addr) (c : Nat) (hn : n ≤ cap) (hp : p = none → n = 0 ∧ cap = 0) :
    (Builtin.append_ #[t, t] ty #[.slice p n cap, .slice x 0 c]).run Tryz.prog w = .ok (.slice p n cap) w := by
  obtain ⟨i, hi⟩ := hinf
  cases p with
  | none =>
    obtain ⟨rfl, rfl⟩ := hp rfl
    cases x <;> simp [Builtin.append_, run_underlying ht, sizeOf, typeInfo, hi, Builtin.lenOf, Builtin.firstCells, storeCells, loadCells, loadCellsFrom]
  | some p =>
    cases x <;> simp [Builtin.append_, run_underlying ht, sizeOf, typeInfo, hi, Builtin.lenOf, Builtin.firstCells, storeCells, loadCells, loadCellsFrom, hn]
theorem recs_more {w : World} {B : Nat} {v : Value} {R : List Rec} (h : w.ownsRow B 49 4 v R.length (recsCells R)) (hl : R.length ≤ 1000000) (hB : B ≤ w.heap.size)
    (x : Option Addr) (m c : Nat) (N : List Rec) (hm : m ≤ 1000000) (hnl : m = N.length) (hN : RowsAt w x m c 4 (recsCells N)) :
    ∃ v' w', (Builtin.append_ #[41, 41] 41 #[v, .slice x m c]).run Tryz.prog w = .ok v' w' ∧ w'.ownsRow B 49 4 v' (R ++ N).length (recsCells (R ++ N)) ∧ Mod v.ownBlock.toList w w' := by
  by_cases h0 : m = 0
  · subst h0
    have : N = [] := List.eq_nil_of_length_eq_zero hnl.symm
    subst this
    have hc : ∃ p k, v = .slice p R.length k ∧ R.length ≤ k ∧ (p = none → R.length = 0 ∧ k = 0) := by
      rcases h.2 with ⟨rfl, h0⟩ | ⟨g, cap, cur, rfl, hg, hh, hcp, hmx, hcs, htk⟩
      · exact ⟨none, 0, by rw [h0], by omega, fun _ => ⟨h0, rfl⟩⟩
      · exact ⟨_, _, rfl, hcp, fun e => by cases e⟩
    obtain ⟨p, k, rfl, hk, hp⟩ := hc
    refine ⟨_, w, append_nought2 _ _ _ Tryz.underlying41 (by obtain ⟨i, hi, _⟩ := info_parts info_rec; exact ⟨i, hi⟩) w p R.length k x c hk hp, ?_, Mod.refl _ _⟩
    rw [List.append_nil]
    exact h
  · obtain ⟨g, o, rfl, hg, hc⟩ := hN.at_ (by omega)
    obtain ⟨v', w', hrun, hown, hmod, _⟩ := own_append 41 49 41 _ 4 48 Tryz.underlying41 info_rec rfl (by decide) (by decide) h hl hB ⟨g, o, none⟩ m c (recsCells N) hm (by omega) (by rw [recs_length, hnl]) (fun j u hj => by rw [addr_add']; exact hc j u hj) (fun u hu => by
      unfold recsCells at hu
      obtain ⟨r, _, hr⟩ := List.mem_flatMap.1 hu
      simp only [recCells, List.mem_cons, List.not_mem_nil, or_false] at hr
      rcases hr with rfl | rfl | rfl | rfl <;> rfl)
    rw [← recs_append] at hown
    exact ⟨v', w', hrun, by rw [List.length_append, ← hnl]; exact hown, hmod⟩
set_option maxRecDepth 100000 in
set_option maxHeartbeats 4000000 in
theorem opsR_any (w : World) (a : Option Addr) (n c : Nat) (z : List EZ) (h : EntsAt w a n c z) (hn : n ≤ 1000) (hops : ∀ q ∈ z, q.2.ops.length ≤ 100) :
    Calls Tryz.prog 41 #[.slice a n c] w fun e w' => ∃ v, e = .returned v ∧ w'.ownsRow w.heap.size 49 4 v (opsOf (z.map (·.2))).length (recsCells (opsOf (z.map (·.2)))) ∧ Below w.heap.size w w' := by
  have HH := Lib.hid h
  have HO := Lib.hid hops
  have hmax := h.rows.max
  clear h hops
  go_enter Tryz.func41, Tryz.ntmps41
  go_wp2_with fail
  go_loopw [3, 4] (fun s3 s4 wr => ∃ (i : Nat) (a3 : Option Addr) (n3 c3 : Nat), i ≤ n ∧ s4 = .int .i64 i ∧ s3 = .slice a3 n3 c3 ∧ n3 = (doneOps (z.map (·.2)) i).length ∧ wr.ownsRow w.heap.size 49 4 (.slice a3 n3 c3) n3 (recsCells (doneOps (z.map (·.2)) i)) ∧ Below w.heap.size w wr) (fun _ s4 _ => n - (intOf s4).toNat)
  case atStart => exact ⟨0, none, 0, 0, by omega, rfl, rfl, rfl, ⟨rfl, .inl ⟨rfl, rfl⟩⟩, Below.refl _ _⟩
  case round =>
    obtain ⟨i, a3, n3, c3, hi, rfl, rfl, hn3, hown, hb⟩ := hrel
    have HB := Lib.hid hb
    have HOw := Lib.hid hown
    have HN3 := Lib.hid hn3
    clear hb hown hn3
    by_cases hlt : i < n
    · have hil : (i : Int) < (n : Int) := by omega
      obtain ⟨q, g, o, hq, hqz, rfl, hg, d0, d1, d2⟩ := (HH.out.on HB.out).row hlt
      have hEI := (HH.out.on HB.out).each q hqz
      have hq2 : (z.map (·.2))[i]? = some q.2 := by rw [List.getElem?_map, hq]; rfl
      have HNx := Lib.hid (doneOps_next _ i q.2 hq2)
      have hoL := HO.out q hqz
      have hdl := opsOf_len (z.map (·.2)) (fun x hx => by obtain ⟨q, hq, rfl⟩ := List.mem_map.1 hx; have := HO.out q hq; omega) i
      have hown2 := HOw.out
      rw [HN3.out] at hown2
      obtain ⟨v', w2, hrun, hown', hmod⟩ := recs_more hown2 (by omega) HB.out.size q.1.a q.1.n q.1.c q.2.ops (by rw [hEI.n]; omega) hEI.n hEI.rows
      rw [← HN3.out] at hrun
      obtain ⟨a4, c4, rfl⟩ := own_slice hown'
      rw [← HNx.out] at hown' hrun
      have HB2 := Lib.hid (show Below w.heap.size w w2 from HB.out.trans (hmod.below (fun y hy => by rw [← HN3.out] at hy; exact (HOw.out.lt y (by simpa using hy)).1) HB.out.size))
      have HOw2 := Lib.hid hown'
      obtain ⟨n4, hn4⟩ : ∃ k, (doneOps (z.map (·.2)) (i + 1)).length = k := ⟨_, rfl⟩
      rw [hn4] at hrun HOw2
      have HN4 := Lib.hid hn4
      obtain ⟨⟨qts, qf, qa, qn, qc⟩, qe⟩ := q
      simp only at d0 d1 d2 hrun
      clear hq hqz hg hEI hq2 HNx hoL hdl hown2 hown' hmod hn4
      cases a3 <;> cases qa <;> (
        go_wp2_with (at_builtin; (with_reducible refine wpList_append_run rfl _ _ _ rfl _ _ _ _ ?_ ?_ hrun ?_); rfl; rfl)
        go_roundw
        case rel => exact ⟨i + 1, a4, n4, c4, by omega, by go_num, rfl, HN4.out.symm, HOw2.out, HB2.out⟩
        case measure => simp [intOf]; omega)
    · have hge : ¬ (i : Int) < (n : Int) := by omega
      have hall : doneOps (z.map (·.2)) i = opsOf (z.map (·.2)) := by
        unfold doneOps
        rw [List.take_of_length_le (by rw [List.length_map, HH.out.len]; omega)]
      have HEnd := Lib.hid (show wr.ownsRow w.heap.size 49 4 (.slice a3 n3 c3) (opsOf (z.map (·.2))).length (recsCells (opsOf (z.map (·.2)))) from by
        have := HOw.out
        have h2 := HN3.out
        rw [hall] at this h2
        rw [← h2]; exact this)
      clear hall HOw HN3
      go_wp2_with fail
      go_ret
      exact ⟨_, by try rfl, HEnd.out, HB.out⟩
end Go.Proofs.YtecknikehieioaaGreat

/-! ### RefT -/
namespace Go.Proofs.YtecknikehieioaaGreat
set_option linter.unusedVariables false
set_option linter.unusedSimpArgs false
open Go.RowKit Go.Maps

set_option maxRecDepth 100000 in
set_option maxHeartbeats 16000000 in
theorem treeR_any (w : World) (s : Sn) (N : List Rec) (hN : RowsAt w s.ca s.cn s.cc 4 (recsCells N)) (eN : s.cn = N.length) (bN : s.cn ≤ 100000) (oN : ∀ r ∈ N, r.ok) (a : Option Addr) (n c : Nat) (z : List EZ) (h : EntsAt w a n c z) (hn : n ≤ 1000) (hops : ∀ q ∈ z, q.2.ops.length ≤ 100) :
    Calls Tryz.prog 18 #[.agg (snCells s).toArray, .slice a n c] w (TreeEnd s N (opsOf (z.map (·.2))) w) := by
  have hAok : ∀ r ∈ opsOf (z.map (·.2)), r.ok := fun r hr => by
    obtain ⟨x, hx, hr⟩ := List.mem_flatMap.1 hr
    obtain ⟨q, hq, rfl⟩ := List.mem_map.1 hx
    exact (h.each q hq).ok.ops r hr
  have hAl : (opsOf (z.map (·.2))).length ≤ 1000 * n := by
    have := opsOf_len (z.map (·.2)) (fun x hx => by obtain ⟨q, hq, rfl⟩ := List.mem_map.1 hx; have := hops q hq; omega) n
    unfold doneOps at this
    rw [List.take_of_length_le (by rw [List.length_map, h.len]; omega)] at this
    exact this
  have HOp := Lib.hid (fun w' (hb : Below w.heap.size w w') => opsR_any w' a n c z (h.on hb) hn hops)
  obtain ⟨A, hA0⟩ : ∃ A, opsOf (z.map (·.2)) = A := ⟨_, rfl⟩
  rw [hA0] at hAok hAl HOp ⊢
  have HAok := Lib.hid hAok
  have HAl := Lib.hid hAl
  have HN := Lib.hid hN
  have EN := Lib.hid eN
  have ON := Lib.hid oN
  have hcm := hN.max
  have HKL := Lib.hid (show treeL (s.dcUp && s.sync) s.last s.stable s.low N A = if (s.dcUp && s.sync) = true then (if 0 ≤ scanT s.stable A none 0 N then scanT s.stable A none 0 N else if firstR (badO s.last s.stable s.low N A) 0 A < 0 then -1 else N.length + firstR (badO s.last s.stable s.low N A) 0 A) else -1 from rfl)
  unfold TreeEnd
  obtain ⟨tv, htv⟩ : ∃ t, treeL (s.dcUp && s.sync) s.last s.stable s.low N A = t := ⟨_, rfl⟩
  rw [htv] at HKL ⊢
  clear h hN eN oN hops htv hA0 hAok hAl
  obtain ⟨tcUp, dcUp, ready, sync, base, stable, last, eosl, low, ca, cn, cc, aa, an, ac, fly⟩ := s
  simp only at HN EN bN HKL hcm
  show Calls Tryz.prog 18 #[.agg #[.bool tcUp, .bool dcUp, .bool ready, .bool sync, .int .u64 (base : Nat), .int .u64 (stable : Nat), .int .u64 (last : Nat), .int .u64 (eosl : Nat), .int .u64 (low : Nat), .slice ca cn cc, .slice aa an ac, .int .i64 fly], .slice a n c] w _
  have hA : Blk (w.alloc (.cells #[.bool tcUp, .bool dcUp, .bool ready, .bool sync, .int .u64 (base : Nat), .int .u64 (stable : Nat), .int .u64 (last : Nat), .int .u64 (eosl : Nat), .int .u64 (low : Nat), .slice ca cn cc, .slice aa an ac, .int .i64 fly] 47)) w.heap.size (snCells (⟨tcUp, dcUp, ready, sync, base, stable, last, eosl, low, ca, cn, cc, aa, an, ac, fly⟩ : Sn)) 47 := Blk.new w (snCells (⟨tcUp, dcUp, ready, sync, base, stable, last, eosl, low, ca, cn, cc, aa, an, ac, fly⟩ : Sn)) 47
  have hbn := (Below.refl w.heap.size w).alloc (Nat.le_refl _) (.cells #[.bool tcUp, .bool dcUp, .bool ready, .bool sync, .int .u64 (base : Nat), .int .u64 (stable : Nat), .int .u64 (last : Nat), .int .u64 (eosl : Nat), .int .u64 (low : Nat), .slice ca cn cc, .slice aa an ac, .int .i64 fly] 47)
  go_enter Tryz.func18, Tryz.ntmps18
  go_upto_region 1 with fail
  obtain ⟨sx, hsx⟩ : ∃ x, w.heap.size = x := ⟨_, rfl⟩
  have HBN := Lib.hid hbn
  have HSx := Lib.hid hsx
  rw [hsx] at hA
  simp only [hsx]
  generalize w.alloc (.cells #[.bool tcUp, .bool dcUp, .bool ready, .bool sync, .int .u64 (base : Nat), .int .u64 (stable : Nat), .int .u64 (last : Nat), .int .u64 (eosl : Nat), .int .u64 (low : Nat), .slice ca cn cc, .slice aa an ac, .int .i64 fly] 47) = w1 at *
  have HA := Lib.hid (show SnAt w1 sx (⟨tcUp, dcUp, ready, sync, base, stable, last, eosl, low, ca, cn, cc, aa, an, ac, fly⟩ : Sn) from ⟨hA⟩)
  have c1 : w1.cell? ⟨sx, 1, none⟩ = some (.bool dcUp) := by rw [hA.cell]; rfl
  have c3 : w1.cell? ⟨sx, 3, none⟩ = some (.bool sync) := by rw [hA.cell]; rfl
  clear hA hbn hsx
  cases dcUp with
  | false =>
    have HR := Lib.hid (show tv = -1 by rw [HKL.out]; rfl)
    go_wp2_with fail
    go_ret
    rw [HR.out]
    exact ⟨by try rfl, HBN.out⟩
  | true =>
  cases sync with
  | false =>
    have HR := Lib.hid (show tv = -1 by rw [HKL.out]; rfl)
    go_wp2_with fail
    go_ret
    rw [HR.out]
    exact ⟨by try rfl, HBN.out⟩
  | true =>
  have HTV := Lib.hid (show tv = (if 0 ≤ scanT stable A none 0 N then scanT stable A none 0 N else if firstR (badO last stable low N A) 0 A < 0 then -1 else N.length + firstR (badO last stable low N A) 0 A) by rw [HKL.out]; rfl)
  have HO1 := Lib.hid (HOp.out w1 HBN.out)
  clear HKL HOp
  go_wp2_with fail
  refine HO1.out.mono ?_
  rintro e w2 ⟨v5, rfl, hown, hb2⟩
  obtain ⟨a5, c5, rfl⟩ := own_slice hown
  have HR5 := Lib.hid (own_rows hown).1
  obtain ⟨n5, hn5⟩ : ∃ k, A.length = k := ⟨_, rfl⟩
  rw [hn5] at HR5 ⊢
  have HN5 := Lib.hid hn5
  have HA2 := Lib.hid (HA.out.on hb2)
  have HB2 := Lib.hid (HBN.out.trans (hb2.mono HBN.out.size))
  have h5m := HR5.out.max
  clear hown hb2 hn5 HO1 HBN HA c1 c3
  go_wp2_with fail
  go_loopw [6, 7] (fun s6 _ wr => ∃ i : Nat, i ≤ cn ∧ s6 = .int .i64 i ∧ scanT stable A none 0 N = scanT stable A (prevT N i) i (N.drop i) ∧ Below w2.heap.size w2 wr) (fun s6 _ _ => cn - (intOf s6).toNat)
  case atStart => exact ⟨0, by omega, rfl, rfl, Below.refl _ _⟩
  case round =>
    obtain ⟨i, hi, rfl, hsc, hb⟩ := hrel
    have HSc := Lib.hid hsc
    have HB := Lib.hid hb
    have HT := Lib.hid (HB2.out.trans (hb.mono HB2.out.size))
    clear hsc hb
    have hh := (HA2.out.on HB.out).blk
    have c9 : wr.cell? ⟨sx, 9, none⟩ = some (.slice ca cn cc) := by rw [hh.cell]; rfl
    by_cases hlt : i < cn
    · have hil : (i : Int) < (cn : Int) := by omega
      obtain ⟨r, g, o, hr, hrm, e2, hg, d0, d1, d2, d3⟩ := recs_row (HN.out.on HT.out) EN.out hlt
      have HSt := Lib.hid (scanT_step stable A N i r hr)
      have hro := ON.out r hrm
      obtain ⟨rk, rl, rd, rv⟩ := r
      simp only at d0 d1 d2 d3
      have HRk := Lib.hid (show rk.length ≤ 9223372036854775807 from hro.1)
      have hbn := (Below.refl wr.heap.size wr).alloc (Nat.le_refl _) (.cells (recCells ⟨rk, rl, rd, rv⟩).toArray 49)
      have hA7 := Blk.new wr (recCells ⟨rk, rl, rd, rv⟩) 49
      subst e2
      clear hro hh hrm
      go_upto_region 8 with fail
      clear d0 d1 d2 d3
      obtain ⟨bb, hbb⟩ : ∃ x, wr.heap.size = x := ⟨_, rfl⟩
      rw [hbb] at hA7
      simp only [hbb]
      change Code.wp _ _ _ _ (wr.alloc (.cells (recCells ⟨rk, rl, rd, rv⟩).toArray 49))
      generalize wr.alloc (.cells (recCells ⟨rk, rl, rd, rv⟩).toArray 49) = w7 at *
      have HBn := Lib.hid hbn
      have HA7 := Lib.hid hA7
      have HB7 := Lib.hid (HB.out.trans (hbn.mono HB.out.size))
      have HT7 := Lib.hid (HT.out.trans (hbn.mono HT.out.size))
      have HIn := Lib.hid (show ∀ w', Below w7.heap.size w7 w' → Calls Tryz.prog 42 #[.slice a5 n5 c5, .agg #[.string ⟨rk.toArray⟩, .int .u64 (rl : Nat), .bool rd, .string ⟨rv.toArray⟩]] w' fun e w'' => e = .returned (.bool (isR A ⟨rk, rl, rd, rv⟩)) ∧ Below w'.heap.size w' w'' from
        fun w' hb => in_any w' a5 n5 c5 A (HR5.out.on (HB7.out.trans (hb.mono HB7.out.size))) HN5.out.symm ⟨rk, rl, rd, rv⟩)
      clear hbn hA7 hbb c9
      have hF0 : ∀ w', Below w7.heap.size w7 w' → (w'.cell? ⟨bb, 0, none⟩ = some (.string ⟨rk.toArray⟩) ∧ w'.cell? ⟨bb, 1, none⟩ = some (.int .u64 (rl : Nat)) ∧ w'.cell? ⟨bb, 2, none⟩ = some (.bool rd) ∧ w'.cell? ⟨bb, 3, none⟩ = some (.string ⟨rv.toArray⟩) ∧ w'.cell? ⟨sx, 5, none⟩ = some (.int .u64 (stable : Nat)) ∧ w'.cell? ⟨sx, 9, none⟩ = some (.slice (some ⟨g, o, none⟩) cn cc)) := fun w' hb => by
        have h1 := HA7.out.on hb
        have h2 := ((HA2.out.on HB7.out).on hb).blk
        refine ⟨?_, ?_, ?_, ?_, ?_, ?_⟩
        · rw [h1.cell]; rfl
        · rw [h1.cell]; rfl
        · rw [h1.cell]; rfl
        · rw [h1.cell]; rfl
        · rw [h2.cell]; rfl
        · rw [h2.cell]; rfl
      have HF0 := Lib.hid hF0
      clear hF0
      obtain ⟨inb, hinb⟩ : ∃ b, isR A ⟨rk, rl, rd, rv⟩ = b := ⟨_, rfl⟩
      rw [hinb] at HIn
      obtain ⟨bad, hbad⟩ : ∃ b, badT stable A (prevT N i) ⟨rk, rl, rd, rv⟩ = b := ⟨_, rfl⟩
      have HBad0 := Lib.hid hbad
      rw [hbad] at HSt
      have HBd := Lib.hid (show bad = ((decide (rl ≤ stable) && !inb) || (match prevT N i with | none => false | some p => !decide (p.key < rk))) from by rw [← hbad, ← hinb]; rfl)
      clear hbad hinb HBad0
      by_cases hls : rl ≤ stable
      · have hlsi : (rl : Int) ≤ (stable : Int) := by omega
        cases inb with
        | false =>
          have HX := Lib.hid (show bad = true by rw [HBd.out]; simp [hls])
          clear hls
          refine wp_region_settle (Below w7.heap.size w7) (by kernel_rfl) (by kernel_rfl) (by kernel_rfl) (below_drew (Below.refl _ _)) ?_
          repeat (first
            | (refine settled_not ?_ ?_
               · rfl
               simp only [Act.put, List.setIfInBounds_toArray, List.set_cons_zero, List.set_cons_succ])
            | (refine settled_val (v := ?_) ?_ (fun w' hS => ?_) ?_
               rotate_left
               · rfl
               · obtain ⟨k0, k1, k2, k3, k5, k9⟩ := HF0.out w' hS
                 go_simp
                 with_reducible rfl
               simp only [Act.put, List.setIfInBounds_toArray, List.set_cons_zero, List.set_cons_succ])
            | (refine settled_call (f := 42) (v := .bool false) ?_ (fun w' hS => ?_) (fun w' hS => ((HIn.out w' hS).mono fun e w'' ⟨h1, h2⟩ => ⟨h1, hS.trans (h2.mono hS.size)⟩)) ?_
               · rfl
               · go_simp
               simp only [Act.put, List.setIfInBounds_toArray, List.set_cons_zero, List.set_cons_succ]))
          refine settled_nil (fun w8 hS => ?_)
          have HE := Lib.hid (HB7.out.trans (hS.mono HB7.out.size))
          have HE2 := Lib.hid (HT7.out.trans (hS.mono HT7.out.size))
          clear hS
          have HR := Lib.hid (show tv = (i : Int) by
            have h1 := HSc.out
            rw [HSt.out, HX.out, if_pos rfl] at h1
            rw [HTV.out, h1, if_pos (by omega)])
          go_wp2_with fail
          go_ret
          rw [HR.out]
          exact ⟨by try rfl, HE2.out⟩
        | true =>
          rcases Nat.eq_zero_or_pos i with hi0 | hi0
          · have hgt : decide (0 < i) = false := decide_eq_false (by omega)
            have HX := Lib.hid (show bad = false by rw [HBd.out, hi0]; simp [prevT])
            clear hi0
            refine wp_region_settle (Below w7.heap.size w7) (by kernel_rfl) (by kernel_rfl) (by kernel_rfl) (below_drew (Below.refl _ _)) ?_
            repeat (first
              | (refine settled_not ?_ ?_
                 · rfl
                 simp only [Act.put, List.setIfInBounds_toArray, List.set_cons_zero, List.set_cons_succ])
              | (refine settled_val (v := ?_) ?_ (fun w' hS => ?_) ?_
                 rotate_left
                 · rfl
                 · obtain ⟨k0, k1, k2, k3, k5, k9⟩ := HF0.out w' hS
                   go_simp
                   with_reducible rfl
                 simp only [Act.put, List.setIfInBounds_toArray, List.set_cons_zero, List.set_cons_succ])
              | (refine settled_call (f := 42) (v := .bool true) ?_ (fun w' hS => ?_) (fun w' hS => ((HIn.out w' hS).mono fun e w'' ⟨h1, h2⟩ => ⟨h1, hS.trans (h2.mono hS.size)⟩)) ?_
                 · rfl
                 · go_simp
                 simp only [Act.put, List.setIfInBounds_toArray, List.set_cons_zero, List.set_cons_succ]))
            refine settled_nil (fun w8 hS => ?_)
            have HE := Lib.hid (HB7.out.trans (hS.mono HB7.out.size))
            have HE2 := Lib.hid (HT7.out.trans (hS.mono HT7.out.size))
            clear hS
            have HR := Lib.hid (show scanT stable A none 0 N = scanT stable A (prevT N (i + 1)) (i + 1) (N.drop (i + 1)) by
              have h1 := HSc.out
              rw [HSt.out, HX.out, if_neg (by decide)] at h1
              exact h1)
            go_wp2_with fail
            go_roundw
            case rel => exact ⟨i + 1, by omega, by go_num, HR.out, HE.out⟩
            case measure => simp [intOf]; omega
          · have hgt : decide (0 < i) = true := decide_eq_true hi0
            obtain ⟨j, hj⟩ : ∃ j, j + 1 = i := ⟨i - 1, by omega⟩
            have hwj : IntKind.i64.wrap (j : Int) = (j : Int) := IntWalk.i64_in _ (by omega)
            have hji : (i : Int) - 1 = (j : Int) := by omega
            have hjl : (j : Int) < (cn : Int) := by omega
            obtain ⟨p, gp, op, hp, hpm, e2, hgp, p0, _, _, _⟩ := recs_row (HN.out.on HT7.out) EN.out (show j < cn by omega)
            simp only [Option.some.injEq, Addr.mk.injEq, and_true] at e2
            obtain ⟨rfl, rfl⟩ := e2
            have HFp := Lib.hid (show ∀ w', Below w7.heap.size w7 w' → w'.cell? ⟨g, o + j * 4, none⟩ = some (.string ⟨p.key.toArray⟩) from fun w' hb => by
              rw [hb.cell (p := ⟨g, o + j * 4, none⟩) hgp]; exact p0)
            have HPv := Lib.hid (show prevT N i = some p by rw [← hj]; exact prevT_next N j p hp)
            have HLs := Lib.hid (fun w' => lessR_any p.key rk w' (show p.key.length ≤ 9223372036854775807 from (ON.out p hpm).1) HRk.out)
            obtain ⟨pk, pl, pd, pv⟩ := p
            simp only at HFp HLs
            clear hp hpm hgp p0 hj hi0
            by_cases hlk : pk < rk
            · have HLs2 := Lib.hid (show ∀ w', Calls Tryz.prog 43 #[.string ⟨pk.toArray⟩, .string ⟨rk.toArray⟩] w' fun e w'' => e = .returned (.bool true) ∧ Below w'.heap.size w' w'' from fun w' => by have := HLs.out w'; rw [show Op.bytesLess pk rk = true by rw [Go.Proofs.bytesLess_eq]; exact decide_eq_true hlk] at this; exact this)
              have HX := Lib.hid (show bad = false by rw [HBd.out, HPv.out]; simp [hlk])
              clear hlk HLs
              have HLs := HLs2
              refine wp_region_settle (Below w7.heap.size w7) (by kernel_rfl) (by kernel_rfl) (by kernel_rfl) (below_drew (Below.refl _ _)) ?_
              repeat (first
                | (refine settled_not ?_ ?_
                   · rfl
                   simp only [Act.put, List.setIfInBounds_toArray, List.set_cons_zero, List.set_cons_succ])
                | (refine settled_val (v := ?_) ?_ (fun w' hS => ?_) ?_
                   rotate_left
                   · rfl
                   · obtain ⟨k0, k1, k2, k3, k5, k9⟩ := HF0.out w' hS
                     have kp := HFp.out w' hS
                     go_simp
                     with_reducible rfl
                   simp only [Act.put, List.setIfInBounds_toArray, List.set_cons_zero, List.set_cons_succ])
                | (refine settled_call (f := 42) (v := .bool true) ?_ (fun w' hS => ?_) (fun w' hS => ((HIn.out w' hS).mono fun e w'' ⟨h1, h2⟩ => ⟨h1, hS.trans (h2.mono hS.size)⟩)) ?_
                   · rfl
                   · go_simp
                   simp only [Act.put, List.setIfInBounds_toArray, List.set_cons_zero, List.set_cons_succ])
                | (refine settled_call (f := 43) (v := .bool true) ?_ (fun w' hS => ?_) (fun w' hS => ((HLs.out w').mono fun e w'' ⟨h1, h2⟩ => ⟨h1, hS.trans (h2.mono hS.size)⟩)) ?_
                   · rfl
                   · go_simp
                   simp only [Act.put, List.setIfInBounds_toArray, List.set_cons_zero, List.set_cons_succ]))
              refine settled_nil (fun w8 hS => ?_)
              have HE := Lib.hid (HB7.out.trans (hS.mono HB7.out.size))
              have HE2 := Lib.hid (HT7.out.trans (hS.mono HT7.out.size))
              clear hS
              have HR := Lib.hid (show scanT stable A none 0 N = scanT stable A (prevT N (i + 1)) (i + 1) (N.drop (i + 1)) by
                have h1 := HSc.out
                rw [HSt.out, HX.out, if_neg (by decide)] at h1
                exact h1)
              go_wp2_with fail
              go_roundw
              case rel => exact ⟨i + 1, by omega, by go_num, HR.out, HE.out⟩
              case measure => simp [intOf]; omega
            · have HLs2 := Lib.hid (show ∀ w', Calls Tryz.prog 43 #[.string ⟨pk.toArray⟩, .string ⟨rk.toArray⟩] w' fun e w'' => e = .returned (.bool false) ∧ Below w'.heap.size w' w'' from fun w' => by have := HLs.out w'; rw [show Op.bytesLess pk rk = false by rw [Go.Proofs.bytesLess_eq]; exact decide_eq_false hlk] at this; exact this)
              have HX := Lib.hid (show bad = true by rw [HBd.out, HPv.out]; simp [hlk])
              clear hlk HLs
              have HLs := HLs2
              refine wp_region_settle (Below w7.heap.size w7) (by kernel_rfl) (by kernel_rfl) (by kernel_rfl) (below_drew (Below.refl _ _)) ?_
              repeat (first
                | (refine settled_not ?_ ?_
                   · rfl
                   simp only [Act.put, List.setIfInBounds_toArray, List.set_cons_zero, List.set_cons_succ])
                | (refine settled_val (v := ?_) ?_ (fun w' hS => ?_) ?_
                   rotate_left
                   · rfl
                   · obtain ⟨k0, k1, k2, k3, k5, k9⟩ := HF0.out w' hS
                     have kp := HFp.out w' hS
                     go_simp
                     with_reducible rfl
                   simp only [Act.put, List.setIfInBounds_toArray, List.set_cons_zero, List.set_cons_succ])
                | (refine settled_call (f := 42) (v := .bool true) ?_ (fun w' hS => ?_) (fun w' hS => ((HIn.out w' hS).mono fun e w'' ⟨h1, h2⟩ => ⟨h1, hS.trans (h2.mono hS.size)⟩)) ?_
                   · rfl
                   · go_simp
                   simp only [Act.put, List.setIfInBounds_toArray, List.set_cons_zero, List.set_cons_succ])
                | (refine settled_call (f := 43) (v := .bool false) ?_ (fun w' hS => ?_) (fun w' hS => ((HLs.out w').mono fun e w'' ⟨h1, h2⟩ => ⟨h1, hS.trans (h2.mono hS.size)⟩)) ?_
                   · rfl
                   · go_simp
                   simp only [Act.put, List.setIfInBounds_toArray, List.set_cons_zero, List.set_cons_succ]))
              refine settled_nil (fun w8 hS => ?_)
              have HE := Lib.hid (HB7.out.trans (hS.mono HB7.out.size))
              have HE2 := Lib.hid (HT7.out.trans (hS.mono HT7.out.size))
              clear hS
              have HR := Lib.hid (show tv = (i : Int) by
                have h1 := HSc.out
                rw [HSt.out, HX.out, if_pos rfl] at h1
                rw [HTV.out, h1, if_pos (by omega)])
              go_wp2_with fail
              go_ret
              rw [HR.out]
              exact ⟨by try rfl, HE2.out⟩
      · have hlsi : ¬ (rl : Int) ≤ (stable : Int) := by omega
        rcases Nat.eq_zero_or_pos i with hi0 | hi0
        · have hgt : decide (0 < i) = false := decide_eq_false (by omega)
          have HX := Lib.hid (show bad = false by rw [HBd.out, hi0]; simp [prevT, hls])
          clear hi0
          refine wp_region_settle (Below w7.heap.size w7) (by kernel_rfl) (by kernel_rfl) (by kernel_rfl) (below_drew (Below.refl _ _)) ?_
          repeat (first
            | (refine settled_not ?_ ?_
               · rfl
               simp only [Act.put, List.setIfInBounds_toArray, List.set_cons_zero, List.set_cons_succ])
            | (refine settled_val (v := ?_) ?_ (fun w' hS => ?_) ?_
               rotate_left
               · rfl
               · obtain ⟨k0, k1, k2, k3, k5, k9⟩ := HF0.out w' hS
                 go_simp
                 with_reducible rfl
               simp only [Act.put, List.setIfInBounds_toArray, List.set_cons_zero, List.set_cons_succ])
            | (refine settled_call (f := 42) (v := .bool inb) ?_ (fun w' hS => ?_) (fun w' hS => ((HIn.out w' hS).mono fun e w'' ⟨h1, h2⟩ => ⟨h1, hS.trans (h2.mono hS.size)⟩)) ?_
               · rfl
               · go_simp
               simp only [Act.put, List.setIfInBounds_toArray, List.set_cons_zero, List.set_cons_succ]))
          refine settled_nil (fun w8 hS => ?_)
          have HE := Lib.hid (HB7.out.trans (hS.mono HB7.out.size))
          have HE2 := Lib.hid (HT7.out.trans (hS.mono HT7.out.size))
          clear hS
          have HR := Lib.hid (show scanT stable A none 0 N = scanT stable A (prevT N (i + 1)) (i + 1) (N.drop (i + 1)) by
            have h1 := HSc.out
            rw [HSt.out, HX.out, if_neg (by decide)] at h1
            exact h1)
          go_wp2_with fail
          go_roundw
          case rel => exact ⟨i + 1, by omega, by go_num, HR.out, HE.out⟩
          case measure => simp [intOf]; omega
        · have hgt : decide (0 < i) = true := decide_eq_true hi0
          obtain ⟨j, hj⟩ : ∃ j, j + 1 = i := ⟨i - 1, by omega⟩
          have hwj : IntKind.i64.wrap (j : Int) = (j : Int) := IntWalk.i64_in _ (by omega)
          have hji : (i : Int) - 1 = (j : Int) := by omega
          have hjl : (j : Int) < (cn : Int) := by omega
          obtain ⟨p, gp, op, hp, hpm, e2, hgp, p0, _, _, _⟩ := recs_row (HN.out.on HT7.out) EN.out (show j < cn by omega)
          simp only [Option.some.injEq, Addr.mk.injEq, and_true] at e2
          obtain ⟨rfl, rfl⟩ := e2
          have HFp := Lib.hid (show ∀ w', Below w7.heap.size w7 w' → w'.cell? ⟨g, o + j * 4, none⟩ = some (.string ⟨p.key.toArray⟩) from fun w' hb => by
            rw [hb.cell (p := ⟨g, o + j * 4, none⟩) hgp]; exact p0)
          have HPv := Lib.hid (show prevT N i = some p by rw [← hj]; exact prevT_next N j p hp)
          have HLs := Lib.hid (fun w' => lessR_any p.key rk w' (show p.key.length ≤ 9223372036854775807 from (ON.out p hpm).1) HRk.out)
          obtain ⟨pk, pl, pd, pv⟩ := p
          simp only at HFp HLs
          clear hp hpm hgp p0 hj hi0
          by_cases hlk : pk < rk
          · have HLs2 := Lib.hid (show ∀ w', Calls Tryz.prog 43 #[.string ⟨pk.toArray⟩, .string ⟨rk.toArray⟩] w' fun e w'' => e = .returned (.bool true) ∧ Below w'.heap.size w' w'' from fun w' => by have := HLs.out w'; rw [show Op.bytesLess pk rk = true by rw [Go.Proofs.bytesLess_eq]; exact decide_eq_true hlk] at this; exact this)
            have HX := Lib.hid (show bad = false by rw [HBd.out, HPv.out]; simp [hlk, hls])
            clear hlk HLs
            have HLs := HLs2
            refine wp_region_settle (Below w7.heap.size w7) (by kernel_rfl) (by kernel_rfl) (by kernel_rfl) (below_drew (Below.refl _ _)) ?_
            repeat (first
              | (refine settled_not ?_ ?_
                 · rfl
                 simp only [Act.put, List.setIfInBounds_toArray, List.set_cons_zero, List.set_cons_succ])
              | (refine settled_val (v := ?_) ?_ (fun w' hS => ?_) ?_
                 rotate_left
                 · rfl
                 · obtain ⟨k0, k1, k2, k3, k5, k9⟩ := HF0.out w' hS
                   have kp := HFp.out w' hS
                   go_simp
                   with_reducible rfl
                 simp only [Act.put, List.setIfInBounds_toArray, List.set_cons_zero, List.set_cons_succ])
              | (refine settled_call (f := 42) (v := .bool inb) ?_ (fun w' hS => ?_) (fun w' hS => ((HIn.out w' hS).mono fun e w'' ⟨h1, h2⟩ => ⟨h1, hS.trans (h2.mono hS.size)⟩)) ?_
                 · rfl
                 · go_simp
                 simp only [Act.put, List.setIfInBounds_toArray, List.set_cons_zero, List.set_cons_succ])
              | (refine settled_call (f := 43) (v := .bool true) ?_ (fun w' hS => ?_) (fun w' hS => ((HLs.out w').mono fun e w'' ⟨h1, h2⟩ => ⟨h1, hS.trans (h2.mono hS.size)⟩)) ?_
                 · rfl
                 · go_simp
                 simp only [Act.put, List.setIfInBounds_toArray, List.set_cons_zero, List.set_cons_succ]))
            refine settled_nil (fun w8 hS => ?_)
            have HE := Lib.hid (HB7.out.trans (hS.mono HB7.out.size))
            have HE2 := Lib.hid (HT7.out.trans (hS.mono HT7.out.size))
            clear hS
            have HR := Lib.hid (show scanT stable A none 0 N = scanT stable A (prevT N (i + 1)) (i + 1) (N.drop (i + 1)) by
              have h1 := HSc.out
              rw [HSt.out, HX.out, if_neg (by decide)] at h1
              exact h1)
            go_wp2_with fail
            go_roundw
            case rel => exact ⟨i + 1, by omega, by go_num, HR.out, HE.out⟩
            case measure => simp [intOf]; omega
          · have HLs2 := Lib.hid (show ∀ w', Calls Tryz.prog 43 #[.string ⟨pk.toArray⟩, .string ⟨rk.toArray⟩] w' fun e w'' => e = .returned (.bool false) ∧ Below w'.heap.size w' w'' from fun w' => by have := HLs.out w'; rw [show Op.bytesLess pk rk = false by rw [Go.Proofs.bytesLess_eq]; exact decide_eq_false hlk] at this; exact this)
            have HX := Lib.hid (show bad = true by rw [HBd.out, HPv.out]; simp [hlk, hls])
            clear hlk HLs
            have HLs := HLs2
            refine wp_region_settle (Below w7.heap.size w7) (by kernel_rfl) (by kernel_rfl) (by kernel_rfl) (below_drew (Below.refl _ _)) ?_
            repeat (first
              | (refine settled_not ?_ ?_
                 · rfl
                 simp only [Act.put, List.setIfInBounds_toArray, List.set_cons_zero, List.set_cons_succ])
              | (refine settled_val (v := ?_) ?_ (fun w' hS => ?_) ?_
                 rotate_left
                 · rfl
                 · obtain ⟨k0, k1, k2, k3, k5, k9⟩ := HF0.out w' hS
                   have kp := HFp.out w' hS
                   go_simp
                   with_reducible rfl
                 simp only [Act.put, List.setIfInBounds_toArray, List.set_cons_zero, List.set_cons_succ])
              | (refine settled_call (f := 42) (v := .bool inb) ?_ (fun w' hS => ?_) (fun w' hS => ((HIn.out w' hS).mono fun e w'' ⟨h1, h2⟩ => ⟨h1, hS.trans (h2.mono hS.size)⟩)) ?_
                 · rfl
                 · go_simp
                 simp only [Act.put, List.setIfInBounds_toArray, List.set_cons_zero, List.set_cons_succ])
              | (refine settled_call (f := 43) (v := .bool false) ?_ (fun w' hS => ?_) (fun w' hS => ((HLs.out w').mono fun e w'' ⟨h1, h2⟩ => ⟨h1, hS.trans (h2.mono hS.size)⟩)) ?_
                 · rfl
                 · go_simp
                 simp only [Act.put, List.setIfInBounds_toArray, List.set_cons_zero, List.set_cons_succ]))
            refine settled_nil (fun w8 hS => ?_)
            have HE := Lib.hid (HB7.out.trans (hS.mono HB7.out.size))
            have HE2 := Lib.hid (HT7.out.trans (hS.mono HT7.out.size))
            clear hS
            have HR := Lib.hid (show tv = (i : Int) by
              have h1 := HSc.out
              rw [HSt.out, HX.out, if_pos rfl] at h1
              rw [HTV.out, h1, if_pos (by omega)])
            go_wp2_with fail
            go_ret
            rw [HR.out]
            exact ⟨by try rfl, HE2.out⟩
    · have hil : ¬ (i : Int) < (cn : Int) := by omega
      have hend : scanT stable A none 0 N = -1 := by
        have := HSc.out
        rw [List.drop_eq_nil_of_le (by have := EN.out; omega)] at this
        exact this
      have HTV2 := Lib.hid (show tv = (if firstR (badO last stable low N A) 0 A < 0 then -1 else N.length + firstR (badO last stable low N A) 0 A) from by
        rw [HTV.out, hend, if_neg (by omega)])
      have HWr := Lib.hid HB.out
      clear hend hh HSc
      go_wp2_with fail
      clear c9 hil
      generalize wr = wo at *
      go_loopw [8, 9, 10, 11, 12] (fun s8 _ _ _ _ wr => ∃ i : Nat, i ≤ n5 ∧ s8 = .int .i64 i ∧ firstR (badO last stable low N A) 0 A = firstR (badO last stable low N A) i (A.drop i) ∧ Below w2.heap.size w2 wr) (fun s8 _ _ _ _ _ => n5 - (intOf s8).toNat)
      case atStart => exact ⟨0, by omega, rfl, rfl, HWr.out⟩
      case round =>
        clear HB HT HWr
        obtain ⟨i, hi, rfl, hsc, hb⟩ := hrel
        have HSc := Lib.hid hsc
        have HB := Lib.hid hb
        have HT := Lib.hid (HB2.out.trans (hb.mono HB2.out.size))
        clear hsc hb
        by_cases hlt : i < n5
        · have hil : (i : Int) < (n5 : Int) := by omega
          obtain ⟨r, g, o, hr, hrm, e2, hg, d0, d1, d2, d3⟩ := recs_row (HR5.out.on HB.out) HN5.out.symm hlt
          have HSt := Lib.hid (firstR_step (badO last stable low N A) A i r hr)
          obtain ⟨bad, hbad⟩ : ∃ b, badO last stable low N A r = b := ⟨_, rfl⟩
          have HBd := Lib.hid (show bad = !((decide (low < r.lsn) || r.del || decide (stable < last)) || (N.any fun o => decide (o.key = r.key) && decide (r.lsn ≤ o.lsn)) || (A.any fun o => o.del && decide (o.key = r.key) && decide (r.lsn < o.lsn))) from by
            rw [← hbad, badO_eq]; rfl)
          rw [hbad] at HSt
          obtain ⟨rk, rl, rd, rv⟩ := r
          simp only at d0 d1 d2 d3 HBd
          have hbn := (Below.refl wr.heap.size wr).alloc (Nat.le_refl _) (.cells (recCells ⟨rk, rl, rd, rv⟩).toArray 49)
          have hA7 := Blk.new wr (recCells ⟨rk, rl, rd, rv⟩) 49
          subst e2
          clear hrm hr hbad hg
          go_upto_region 14 with fail
          clear d0 d1 d2 d3
          obtain ⟨bb, hbb⟩ : ∃ x, wr.heap.size = x := ⟨_, rfl⟩
          rw [hbb] at hA7
          simp only [hbb]
          change Code.wp _ _ _ _ (wr.alloc (.cells (recCells ⟨rk, rl, rd, rv⟩).toArray 49))
          generalize wr.alloc (.cells (recCells ⟨rk, rl, rd, rv⟩).toArray 49) = w7 at *
          have HA7 := Lib.hid hA7
          have HB7 := Lib.hid (HB.out.trans (hbn.mono HB.out.size))
          have HT7 := Lib.hid (HT.out.trans (hbn.mono HT.out.size))
          have h2 := (HA2.out.on HB7.out).blk
          have c1 : w7.cell? ⟨bb, 1, none⟩ = some (.int .u64 (rl : Nat)) := by rw [hA7.cell]; rfl
          have c2 : w7.cell? ⟨bb, 2, none⟩ = some (.bool rd) := by rw [hA7.cell]; rfl
          have c5 : w7.cell? ⟨sx, 5, none⟩ = some (.int .u64 (stable : Nat)) := by rw [h2.cell]; rfl
          have c6 : w7.cell? ⟨sx, 6, none⟩ = some (.int .u64 (last : Nat)) := by rw [h2.cell]; rfl
          have c8 : w7.cell? ⟨sx, 8, none⟩ = some (.int .u64 (low : Nat)) := by rw [h2.cell]; rfl
          clear hbn hA7 hbb h2 HB HT
          obtain ⟨b0, hb0⟩ : ∃ b, (decide (low < rl) || rd || decide (stable < last)) = b := ⟨_, rfl⟩
          have HB0 := Lib.hid hb0
          rw [hb0] at HBd
          clear hb0
          go_cut [10] (fun s10 wx => s10 = .bool b0 ∧ w7 = wx)
          case first =>
            by_cases h1 : low < rl
            · have e1 : (rl : Int) > (low : Int) := by omega
              have HX := Lib.hid (show b0 = true by rw [← HB0.out]; simp [h1])
              clear h1
              go_wp2_with fail
              go_meet
              exact ⟨by rw [HX.out], rfl⟩
            · have e1 : ¬ (rl : Int) > (low : Int) := by omega
              cases rd with
              | true =>
                have HX := Lib.hid (show b0 = true by rw [← HB0.out]; simp)
                clear h1
                go_wp2_with fail
                go_meet
                exact ⟨by rw [HX.out], rfl⟩
              | false =>
                by_cases h3 : stable < last
                · have e3 : (last : Int) > (stable : Int) := by omega
                  have HX := Lib.hid (show b0 = true by rw [← HB0.out]; simp [h3])
                  clear h1 h3
                  go_wp2_with fail
                  go_meet
                  exact ⟨by rw [HX.out], rfl⟩
                · have e3 : ¬ (last : Int) > (stable : Int) := by omega
                  have HX := Lib.hid (show b0 = false by rw [← HB0.out]; simp [h1, h3])
                  clear h1 h3
                  go_wp2_with fail
                  go_meet
                  exact ⟨by rw [HX.out], rfl⟩
          obtain ⟨rfl, rfl⟩ := hcut
          clear c1 c2 c5 c6 c8
          go_wp2_with fail
          generalize wr = wo18 at *
          go_loopw [10, 11] (fun s10 s11 wr => ∃ k : Nat, k ≤ cn ∧ s11 = .int .i64 k ∧ s10 = .bool (b0 || (N.take k).any (fun o => decide (o.key = rk) && decide (rl ≤ o.lsn))) ∧ Below w7.heap.size w7 wr) (fun _ s11 _ => cn - (intOf s11).toNat)
          case atStart => exact ⟨0, by omega, rfl, by rw [show (N.take 0).any (fun o => decide (o.key = rk) && decide (rl ≤ o.lsn)) = false from rfl, Bool.or_false], Below.refl _ _⟩
          case round =>
            obtain ⟨k, hk, rfl, rfl, hb⟩ := hrel
            have HBk := Lib.hid hb
            have HTk := Lib.hid (HT7.out.trans (hb.mono HT7.out.size))
            clear hb
            have hh := ((HA2.out.on HB7.out).on HBk.out).blk
            have c9 : wr.cell? ⟨sx, 9, none⟩ = some (.slice ca cn cc) := by rw [hh.cell]; rfl
            by_cases hkn : k < cn
            · have hkl : (k : Int) < (cn : Int) := by omega
              obtain ⟨q, g4, o4, hq, hqm, e4, hg4, p0, p1, p2, p3⟩ := recs_row (HN.out.on HTk.out) EN.out hkn
              have HNx := Lib.hid (any_next (fun o => decide (o.key = rk) && decide (rl ≤ o.lsn)) N k q hq)
              obtain ⟨qk, ql, qd, qv⟩ := q
              simp only at p0 p1 HNx
              subst e4
              have HF := Lib.hid (show ∀ w', Below wr.heap.size wr w' → (w'.cell? ⟨sx, 9, none⟩ = some (.slice (some ⟨g4, o4, none⟩) cn cc) ∧ w'.cell? ⟨g4, o4 + k * 4, none⟩ = some (.string ⟨qk.toArray⟩) ∧ w'.cell? ⟨g4, o4 + k * 4 + 1, none⟩ = some (.int .u64 (ql : Nat)) ∧ w'.cell? ⟨bb, 0, none⟩ = some (.string ⟨rk.toArray⟩) ∧ w'.cell? ⟨bb, 1, none⟩ = some (.int .u64 (rl : Nat))) from fun w' hb => by
                have h1 := (HA7.out.on HBk.out).on hb
                have h2 := hh.on hb
                refine ⟨?_, ?_, ?_, ?_, ?_⟩
                · rw [h2.cell]; rfl
                · rw [hb.cell (p := ⟨g4, o4 + k * 4, none⟩) hg4]; exact p0
                · rw [hb.cell (p := ⟨g4, o4 + k * 4 + 1, none⟩) hg4]; exact p1
                · rw [h1.cell]; rfl
                · rw [h1.cell]; rfl)
              clear hq hqm hg4 p0 p1 p2 p3 hh
              obtain ⟨b, hb⟩ : ∃ b, (b0 || (N.take k).any (fun o => decide (o.key = rk) && decide (rl ≤ o.lsn))) = b := ⟨_, rfl⟩
              rw [hb]
              have HBb := Lib.hid hb
              clear hb
              cases b with
              | true =>
                have HX := Lib.hid (show (b0 || (N.take (k + 1)).any (fun o => decide (o.key = rk) && decide (rl ≤ o.lsn))) = true by rw [HNx.out, ← Bool.or_assoc, HBb.out]; simp)
                go_upto_region 18 with fail
                refine wp_region_settle (Below wr.heap.size wr) (by kernel_rfl) (by kernel_rfl) (by kernel_rfl) (below_drew (Below.refl _ _)) ?_
                repeat (first
                  | (refine settled_not ?_ ?_
                     · rfl
                     simp only [Act.put, List.setIfInBounds_toArray, List.set_cons_zero, List.set_cons_succ])
                  | (refine settled_val (v := ?_) ?_ (fun w' hS => ?_) ?_
                     rotate_left
                     · rfl
                     · obtain ⟨k0, k1, k2, k3, k4⟩ := HF.out w' hS
                       go_simp
                       with_reducible rfl
                     simp only [Act.put, List.setIfInBounds_toArray, List.set_cons_zero, List.set_cons_succ]))
                refine settled_nil (fun w8 hS => ?_)
                have HE := Lib.hid (HBk.out.trans (hS.mono HBk.out.size))
                clear hS
                go_wp2_with fail
                go_roundw
                case rel => exact ⟨k + 1, by omega, by go_num, by rw [HX.out], HE.out⟩
                case measure => simp [intOf]; omega
              | false =>
                by_cases hke : qk = rk
                · have e1 : ((⟨qk.toArray⟩ : ByteArray) == ⟨rk.toArray⟩) = true := by rw [bytes_beq]; simp [hke]
                  have e2 : (qk == rk) = true := by simp [hke]
                  by_cases hlq : rl ≤ ql
                  · have hgt : (ql : Int) ≥ (rl : Int) := by omega
                    have HX := Lib.hid (show (b0 || (N.take (k + 1)).any (fun o => decide (o.key = rk) && decide (rl ≤ o.lsn))) = true by rw [HNx.out, ← Bool.or_assoc, HBb.out]; simp [hke, hlq])
                    go_upto_region 18 with fail
                    refine wp_region_settle (Below wr.heap.size wr) (by kernel_rfl) (by kernel_rfl) (by kernel_rfl) (below_drew (Below.refl _ _)) ?_
                    repeat (first
                      | (refine settled_not ?_ ?_
                         · rfl
                         simp only [Act.put, List.setIfInBounds_toArray, List.set_cons_zero, List.set_cons_succ])
                      | (refine settled_val (v := ?_) ?_ (fun w' hS => ?_) ?_
                         rotate_left
                         · rfl
                         · obtain ⟨k0, k1, k2, k3, k4⟩ := HF.out w' hS
                           go_simp
                           with_reducible rfl
                         simp only [Act.put, List.setIfInBounds_toArray, List.set_cons_zero, List.set_cons_succ]))
                    refine settled_nil (fun w8 hS => ?_)
                    have HE := Lib.hid (HBk.out.trans (hS.mono HBk.out.size))
                    clear hS
                    go_wp2_with fail
                    go_roundw
                    case rel => exact ⟨k + 1, by omega, by go_num, by rw [HX.out], HE.out⟩
                    case measure => simp [intOf]; omega
                  · have hgt : ¬ (ql : Int) ≥ (rl : Int) := by omega
                    have HX := Lib.hid (show (b0 || (N.take (k + 1)).any (fun o => decide (o.key = rk) && decide (rl ≤ o.lsn))) = false by rw [HNx.out, ← Bool.or_assoc, HBb.out]; simp [hlq])
                    go_upto_region 18 with fail
                    refine wp_region_settle (Below wr.heap.size wr) (by kernel_rfl) (by kernel_rfl) (by kernel_rfl) (below_drew (Below.refl _ _)) ?_
                    repeat (first
                      | (refine settled_not ?_ ?_
                         · rfl
                         simp only [Act.put, List.setIfInBounds_toArray, List.set_cons_zero, List.set_cons_succ])
                      | (refine settled_val (v := ?_) ?_ (fun w' hS => ?_) ?_
                         rotate_left
                         · rfl
                         · obtain ⟨k0, k1, k2, k3, k4⟩ := HF.out w' hS
                           go_simp
                           with_reducible rfl
                         simp only [Act.put, List.setIfInBounds_toArray, List.set_cons_zero, List.set_cons_succ]))
                    refine settled_nil (fun w8 hS => ?_)
                    have HE := Lib.hid (HBk.out.trans (hS.mono HBk.out.size))
                    clear hS
                    go_wp2_with fail
                    go_roundw
                    case rel => exact ⟨k + 1, by omega, by go_num, by rw [HX.out], HE.out⟩
                    case measure => simp [intOf]; omega
                · have e1 : ((⟨qk.toArray⟩ : ByteArray) == ⟨rk.toArray⟩) = false := by rw [bytes_beq]; simp [hke]
                  have e2 : (qk == rk) = false := by simp [hke]
                  have HX := Lib.hid (show (b0 || (N.take (k + 1)).any (fun o => decide (o.key = rk) && decide (rl ≤ o.lsn))) = false by rw [HNx.out, ← Bool.or_assoc, HBb.out]; simp [hke])
                  go_upto_region 18 with fail
                  refine wp_region_settle (Below wr.heap.size wr) (by kernel_rfl) (by kernel_rfl) (by kernel_rfl) (below_drew (Below.refl _ _)) ?_
                  repeat (first
                    | (refine settled_not ?_ ?_
                       · rfl
                       simp only [Act.put, List.setIfInBounds_toArray, List.set_cons_zero, List.set_cons_succ])
                    | (refine settled_val (v := ?_) ?_ (fun w' hS => ?_) ?_
                       rotate_left
                       · rfl
                       · obtain ⟨k0, k1, k2, k3, k4⟩ := HF.out w' hS
                         go_simp
                         with_reducible rfl
                       simp only [Act.put, List.setIfInBounds_toArray, List.set_cons_zero, List.set_cons_succ]))
                  refine settled_nil (fun w8 hS => ?_)
                  have HE := Lib.hid (HBk.out.trans (hS.mono HBk.out.size))
                  clear hS
                  go_wp2_with fail
                  go_roundw
                  case rel => exact ⟨k + 1, by omega, by go_num, by rw [HX.out], HE.out⟩
                  case measure => simp [intOf]; omega
            · have hkl : ¬ (k : Int) < (cn : Int) := by omega
              rw [List.take_of_length_le (show N.length ≤ k by have := EN.out; omega)]
              obtain ⟨b4, hb4⟩ : ∃ b, (b0 || N.any (fun o => decide (o.key = rk) && decide (rl ≤ o.lsn))) = b := ⟨_, rfl⟩
              rw [hb4]
              have HB4 := Lib.hid hb4
              have HBw := Lib.hid HBk.out
              clear hb4 hh
              go_wp2_with fail
              generalize wr = wo22 at *
              go_loopw [10, 12] (fun s10 s11 wr => ∃ k : Nat, k ≤ n5 ∧ s11 = .int .i64 k ∧ s10 = .bool (b4 || (A.take k).any (fun o => o.del && decide (o.key = rk) && decide (rl < o.lsn))) ∧ Below w7.heap.size w7 wr) (fun _ s11 _ => n5 - (intOf s11).toNat)
              case atStart => exact ⟨0, by omega, rfl, by rw [show (A.take 0).any (fun o => o.del && decide (o.key = rk) && decide (rl < o.lsn)) = false from rfl, Bool.or_false], HBw.out⟩
              case round =>
                clear HBw
                obtain ⟨j, hj, rfl, rfl, hb⟩ := hrel
                have HBk := Lib.hid hb
                have HTk := Lib.hid (HT7.out.trans (hb.mono HT7.out.size))
                have HT2k := Lib.hid (HB7.out.trans (hb.mono HB7.out.size))
                clear hb
                by_cases hjn : j < n5
                · have hjl : (j : Int) < (n5 : Int) := by omega
                  obtain ⟨q, g4, o4, hq, hqm, e4, hg4, p0, p1, p2, p3⟩ := recs_row (HR5.out.on HT2k.out) HN5.out.symm hjn
                  have HNx := Lib.hid (any_next (fun o => o.del && decide (o.key = rk) && decide (rl < o.lsn)) A j q hq)
                  obtain ⟨qk, ql, qd, qv⟩ := q
                  simp only at p0 p1 p2 HNx
                  simp only [Option.some.injEq, Addr.mk.injEq, and_true] at e4
                  obtain ⟨rfl, rfl⟩ := e4
                  have HF := Lib.hid (show ∀ w', Below wr.heap.size wr w' → (w'.cell? ⟨g, o + j * 4, none⟩ = some (.string ⟨qk.toArray⟩) ∧ w'.cell? ⟨g, o + j * 4 + 1, none⟩ = some (.int .u64 (ql : Nat)) ∧ w'.cell? ⟨g, o + j * 4 + 2, none⟩ = some (.bool qd) ∧ w'.cell? ⟨bb, 0, none⟩ = some (.string ⟨rk.toArray⟩) ∧ w'.cell? ⟨bb, 1, none⟩ = some (.int .u64 (rl : Nat))) from fun w' hb => by
                    have h1 := (HA7.out.on HBk.out).on hb
                    refine ⟨?_, ?_, ?_, ?_, ?_⟩
                    · rw [hb.cell (p := ⟨g, o + j * 4, none⟩) hg4]; exact p0
                    · rw [hb.cell (p := ⟨g, o + j * 4 + 1, none⟩) hg4]; exact p1
                    · rw [hb.cell (p := ⟨g, o + j * 4 + 2, none⟩) hg4]; exact p2
                    · rw [h1.cell]; rfl
                    · rw [h1.cell]; rfl)
                  clear hq hqm hg4 p0 p1 p2 p3
                  obtain ⟨b, hb⟩ : ∃ b, (b4 || (A.take j).any (fun o => o.del && decide (o.key = rk) && decide (rl < o.lsn))) = b := ⟨_, rfl⟩
                  rw [hb]
                  have HBb := Lib.hid hb
                  clear hb
                  cases b with
                  | true =>
                    have HX := Lib.hid (show (b4 || (A.take (j + 1)).any (fun o => o.del && decide (o.key = rk) && decide (rl < o.lsn))) = true by rw [HNx.out, ← Bool.or_assoc, HBb.out]; simp)
                    go_upto_region 22 with fail
                    refine wp_region_settle (Below wr.heap.size wr) (by kernel_rfl) (by kernel_rfl) (by kernel_rfl) (below_drew (Below.refl _ _)) ?_
                    repeat (first
                      | (refine settled_not ?_ ?_
                         · rfl
                         simp only [Act.put, List.setIfInBounds_toArray, List.set_cons_zero, List.set_cons_succ])
                      | (refine settled_val (v := ?_) ?_ (fun w' hS => ?_) ?_
                         rotate_left
                         · rfl
                         · obtain ⟨k0, k1, k2, k3, k4⟩ := HF.out w' hS
                           go_simp
                           with_reducible rfl
                         simp only [Act.put, List.setIfInBounds_toArray, List.set_cons_zero, List.set_cons_succ]))
                    refine settled_nil (fun w8 hS => ?_)
                    have HE := Lib.hid (HBk.out.trans (hS.mono HBk.out.size))
                    clear hS
                    go_wp2_with fail
                    go_roundw
                    case rel => exact ⟨j + 1, by omega, by go_num, by rw [HX.out], HE.out⟩
                    case measure => simp [intOf]; omega
                  | false =>
                    cases qd with
                    | false =>
                      have HX := Lib.hid (show (b4 || (A.take (j + 1)).any (fun o => o.del && decide (o.key = rk) && decide (rl < o.lsn))) = false by rw [HNx.out, ← Bool.or_assoc, HBb.out]; simp)
                      go_upto_region 22 with fail
                      refine wp_region_settle (Below wr.heap.size wr) (by kernel_rfl) (by kernel_rfl) (by kernel_rfl) (below_drew (Below.refl _ _)) ?_
                      repeat (first
                        | (refine settled_not ?_ ?_
                           · rfl
                           simp only [Act.put, List.setIfInBounds_toArray, List.set_cons_zero, List.set_cons_succ])
                        | (refine settled_val (v := ?_) ?_ (fun w' hS => ?_) ?_
                           rotate_left
                           · rfl
                           · obtain ⟨k0, k1, k2, k3, k4⟩ := HF.out w' hS
                             go_simp
                             with_reducible rfl
                           simp only [Act.put, List.setIfInBounds_toArray, List.set_cons_zero, List.set_cons_succ]))
                      refine settled_nil (fun w8 hS => ?_)
                      have HE := Lib.hid (HBk.out.trans (hS.mono HBk.out.size))
                      clear hS
                      go_wp2_with fail
                      go_roundw
                      case rel => exact ⟨j + 1, by omega, by go_num, by rw [HX.out], HE.out⟩
                      case measure => simp [intOf]; omega
                    | true =>
                      by_cases hke : qk = rk
                      · have e1 : ((⟨qk.toArray⟩ : ByteArray) == ⟨rk.toArray⟩) = true := by rw [bytes_beq]; simp [hke]
                        have e2 : (qk == rk) = true := by simp [hke]
                        by_cases hlq : rl < ql
                        · have hgt : (ql : Int) > (rl : Int) := by omega
                          have HX := Lib.hid (show (b4 || (A.take (j + 1)).any (fun o => o.del && decide (o.key = rk) && decide (rl < o.lsn))) = true by rw [HNx.out, ← Bool.or_assoc, HBb.out]; simp [hke, hlq])
                          go_upto_region 22 with fail
                          refine wp_region_settle (Below wr.heap.size wr) (by kernel_rfl) (by kernel_rfl) (by kernel_rfl) (below_drew (Below.refl _ _)) ?_
                          repeat (first
                            | (refine settled_not ?_ ?_
                               · rfl
                               simp only [Act.put, List.setIfInBounds_toArray, List.set_cons_zero, List.set_cons_succ])
                            | (refine settled_val (v := ?_) ?_ (fun w' hS => ?_) ?_
                               rotate_left
                               · rfl
                               · obtain ⟨k0, k1, k2, k3, k4⟩ := HF.out w' hS
                                 go_simp
                                 with_reducible rfl
                               simp only [Act.put, List.setIfInBounds_toArray, List.set_cons_zero, List.set_cons_succ]))
                          refine settled_nil (fun w8 hS => ?_)
                          have HE := Lib.hid (HBk.out.trans (hS.mono HBk.out.size))
                          clear hS
                          go_wp2_with fail
                          go_roundw
                          case rel => exact ⟨j + 1, by omega, by go_num, by rw [HX.out], HE.out⟩
                          case measure => simp [intOf]; omega
                        · have hgt : ¬ (ql : Int) > (rl : Int) := by omega
                          have HX := Lib.hid (show (b4 || (A.take (j + 1)).any (fun o => o.del && decide (o.key = rk) && decide (rl < o.lsn))) = false by rw [HNx.out, ← Bool.or_assoc, HBb.out]; simp [hlq])
                          go_upto_region 22 with fail
                          refine wp_region_settle (Below wr.heap.size wr) (by kernel_rfl) (by kernel_rfl) (by kernel_rfl) (below_drew (Below.refl _ _)) ?_
                          repeat (first
                            | (refine settled_not ?_ ?_
                               · rfl
                               simp only [Act.put, List.setIfInBounds_toArray, List.set_cons_zero, List.set_cons_succ])
                            | (refine settled_val (v := ?_) ?_ (fun w' hS => ?_) ?_
                               rotate_left
                               · rfl
                               · obtain ⟨k0, k1, k2, k3, k4⟩ := HF.out w' hS
                                 go_simp
                                 with_reducible rfl
                               simp only [Act.put, List.setIfInBounds_toArray, List.set_cons_zero, List.set_cons_succ]))
                          refine settled_nil (fun w8 hS => ?_)
                          have HE := Lib.hid (HBk.out.trans (hS.mono HBk.out.size))
                          clear hS
                          go_wp2_with fail
                          go_roundw
                          case rel => exact ⟨j + 1, by omega, by go_num, by rw [HX.out], HE.out⟩
                          case measure => simp [intOf]; omega
                      · have e1 : ((⟨qk.toArray⟩ : ByteArray) == ⟨rk.toArray⟩) = false := by rw [bytes_beq]; simp [hke]
                        have e2 : (qk == rk) = false := by simp [hke]
                        have HX := Lib.hid (show (b4 || (A.take (j + 1)).any (fun o => o.del && decide (o.key = rk) && decide (rl < o.lsn))) = false by rw [HNx.out, ← Bool.or_assoc, HBb.out]; simp [hke])
                        go_upto_region 22 with fail
                        refine wp_region_settle (Below wr.heap.size wr) (by kernel_rfl) (by kernel_rfl) (by kernel_rfl) (below_drew (Below.refl _ _)) ?_
                        repeat (first
                          | (refine settled_not ?_ ?_
                             · rfl
                             simp only [Act.put, List.setIfInBounds_toArray, List.set_cons_zero, List.set_cons_succ])
                          | (refine settled_val (v := ?_) ?_ (fun w' hS => ?_) ?_
                             rotate_left
                             · rfl
                             · obtain ⟨k0, k1, k2, k3, k4⟩ := HF.out w' hS
                               go_simp
                               with_reducible rfl
                             simp only [Act.put, List.setIfInBounds_toArray, List.set_cons_zero, List.set_cons_succ]))
                        refine settled_nil (fun w8 hS => ?_)
                        have HE := Lib.hid (HBk.out.trans (hS.mono HBk.out.size))
                        clear hS
                        go_wp2_with fail
                        go_roundw
                        case rel => exact ⟨j + 1, by omega, by go_num, by rw [HX.out], HE.out⟩
                        case measure => simp [intOf]; omega
                · have hjl : ¬ (j : Int) < (n5 : Int) := by omega
                  rw [List.take_of_length_le (show A.length ≤ j by have := HN5.out; omega)]
                  obtain ⟨b6, hb6⟩ : ∃ b, (b4 || A.any (fun o => o.del && decide (o.key = rk) && decide (rl < o.lsn))) = b := ⟨_, rfl⟩
                  rw [hb6]
                  have HX := Lib.hid (show bad = !b6 by rw [HBd.out, ← hb6, ← HB4.out])
                  have hh := ((HA2.out.on HT2k.out)).blk
                  have c9 : wr.cell? ⟨sx, 9, none⟩ = some (.slice ca cn cc) := by rw [hh.cell]; rfl
                  clear hb6 hh
                  cases b6 with
                  | false =>
                    have hcw : IntKind.i64.wrap ((cn : Int) + (i : Int)) = (cn : Int) + (i : Int) := IntWalk.i64_in _ (by have := HAl.out; have := HN5.out; omega)
                    have HR := Lib.hid (show tv = (cn : Int) + (i : Int) by
                      have h1 := HSc.out
                      rw [HSt.out, HX.out, if_pos (show (!false) = true from rfl)] at h1
                      rw [HTV2.out, h1, if_neg (by omega), EN.out])
                    go_wp2_with fail
                    go_ret
                    rw [HR.out]
                    exact ⟨by try rfl, HTk.out⟩
                  | true =>
                    have HR := Lib.hid (show firstR (badO last stable low N A) 0 A = firstR (badO last stable low N A) (i + 1) (A.drop (i + 1)) by
                      have h1 := HSc.out
                      rw [HSt.out, HX.out, if_neg (by decide)] at h1
                      exact h1)
                    go_wp2_with fail
                    go_roundw
                    case rel => exact ⟨i + 1, by omega, by go_num, HR.out, HT2k.out⟩
                    case measure => simp [intOf]; omega
        · have hil : ¬ (i : Int) < (n5 : Int) := by omega
          have HR := Lib.hid (show tv = -1 by
            have h1 := HSc.out
            rw [List.drop_eq_nil_of_le (by have := HN5.out; omega)] at h1
            rw [HTV2.out, h1]
            exact if_pos (by show (-1 : Int) < 0; decide))
          go_wp2_with fail
          go_ret
          rw [HR.out]
          exact ⟨by try rfl, HT.out⟩
end Go.Proofs.YtecknikehieioaaGreat

/-! ### RefQ -/
namespace Go.Proofs.YtecknikehieioaaGreat
set_option linter.unusedVariables false
set_option linter.unusedSimpArgs false
open Go.RowKit Go.Maps

set_option maxRecDepth 100000 in
set_option maxHeartbeats 8000000 in
theorem quietR_any (w : World) (s : Sn) (T : List Nat) (hl : T.length = s.an) (am : Option Addr) (nm cm : Nat) (zm : List MZ) (hm : MadeAt w am nm cm zm) (hnm : nm ≤ 100000) :
    Calls Tryz.prog 22 #[.agg (snCells s).toArray, .slice am nm cm] w (QuietEnd s T zm w) := by
  obtain ⟨tcUp, dcUp, ready, sync, base, stable, last, eosl, low, ca, cn, cc, aa, an, ac, fly⟩ := s
  simp only at hl
  unfold QuietEnd
  obtain ⟨bv, hbv⟩ : ∃ b, quietL (⟨tcUp, dcUp, ready, sync, base, stable, last, eosl, low, ca, cn, cc, aa, an, ac, fly⟩ : Sn) T zm = b := ⟨_, rfl⟩
  rw [hbv]
  have HV := Lib.hid (show ((tcUp && (dcUp && (ready && decide (an = 0)))) && ((decide (low = eosl) && (decide (eosl = stable) && decide (stable = last))) && zm.all fun q => q.1.dn)) = bv from by
    rw [← hbv, ← hl]; rfl)
  show Calls Tryz.prog 22 #[.agg #[.bool tcUp, .bool dcUp, .bool ready, .bool sync, .int .u64 (base : Nat), .int .u64 (stable : Nat), .int .u64 (last : Nat), .int .u64 (eosl : Nat), .int .u64 (low : Nat), .slice ca cn cc, .slice aa an ac, .int .i64 fly], .slice am nm cm] w _
  have hmax := hm.rows.max
  have HM := Lib.hid (hm.on ((Below.refl w.heap.size w).alloc (Nat.le_refl _) (.cells #[.bool tcUp, .bool dcUp, .bool ready, .bool sync, .int .u64 (base : Nat), .int .u64 (stable : Nat), .int .u64 (last : Nat), .int .u64 (eosl : Nat), .int .u64 (low : Nat), .slice ca cn cc, .slice aa an ac, .int .i64 fly] 47)))
  have HZl := Lib.hid hm.len
  have hA : Blk (w.alloc (.cells #[.bool tcUp, .bool dcUp, .bool ready, .bool sync, .int .u64 (base : Nat), .int .u64 (stable : Nat), .int .u64 (last : Nat), .int .u64 (eosl : Nat), .int .u64 (low : Nat), .slice ca cn cc, .slice aa an ac, .int .i64 fly] 47)) w.heap.size (snCells (⟨tcUp, dcUp, ready, sync, base, stable, last, eosl, low, ca, cn, cc, aa, an, ac, fly⟩ : Sn)) 47 := Blk.new w (snCells (⟨tcUp, dcUp, ready, sync, base, stable, last, eosl, low, ca, cn, cc, aa, an, ac, fly⟩ : Sn)) 47
  have hbn := (Below.refl w.heap.size w).alloc (Nat.le_refl _) (.cells #[.bool tcUp, .bool dcUp, .bool ready, .bool sync, .int .u64 (base : Nat), .int .u64 (stable : Nat), .int .u64 (last : Nat), .int .u64 (eosl : Nat), .int .u64 (low : Nat), .slice ca cn cc, .slice aa an ac, .int .i64 fly] 47)
  clear hm hl hbv
  go_enter Tryz.func22, Tryz.ntmps22
  go_upto_region 1 with fail
  obtain ⟨sx, hsx⟩ : ∃ x, w.heap.size = x := ⟨_, rfl⟩
  have HBN := Lib.hid hbn
  rw [hsx] at hA
  simp only [hsx]
  generalize w.alloc (.cells #[.bool tcUp, .bool dcUp, .bool ready, .bool sync, .int .u64 (base : Nat), .int .u64 (stable : Nat), .int .u64 (last : Nat), .int .u64 (eosl : Nat), .int .u64 (low : Nat), .slice ca cn cc, .slice aa an ac, .int .i64 fly] 47) = w1 at *
  have HA := Lib.hid hA
  clear hA hbn hsx
  go_wp2_with fail
  go_loopw [5] (fun s5 wr => ∃ k : Nat, k ≤ nm ∧ s5 = .int .i64 k ∧ (∀ q ∈ zm.take k, q.1.dn = true) ∧ Below w1.heap.size w1 wr) (fun s5 _ => nm - (intOf s5).toNat)
  case atStart => exact ⟨0, by omega, rfl, fun q hq => by simp at hq, Below.refl _ _⟩
  case round =>
    obtain ⟨k, hk, rfl, hno, hb⟩ := hrel
    have HNo := Lib.hid hno
    have HB := Lib.hid hb
    have HT := Lib.hid (HBN.out.trans (hb.mono HBN.out.size))
    clear hno hb
    by_cases hkn : k < nm
    · have hkl : (k : Int) < (nm : Int) := by omega
      obtain ⟨q, g, o, hq, hqz, rfl, hg, hc⟩ := (HM.out.on HB.out).row hkn
      obtain ⟨_, _, _, _, _, _, _, c7, _⟩ := hc
      obtain ⟨q1, q2⟩ := q
      simp only at c7
      cases hd : q1.dn with
      | false =>
        have HX := Lib.hid (show bv = false by
          rw [← HV.out]
          have : (zm.all fun q => q.1.dn) = false := by
            rw [List.all_eq_false]
            exact ⟨(q1, q2), hqz, by rw [hd]; simp⟩
          rw [this, Bool.and_false, Bool.and_false])
        rw [hd] at c7
        clear hq hqz hd hg
        go_wp2_with fail
        go_ret
        rw [HX.out]
        exact ⟨by try rfl, HT.out⟩
      | true =>
        have HX := Lib.hid (show ∀ q ∈ zm.take (k + 1), q.1.dn = true from fun q hq' => by
          rw [List.take_add_one, hq] at hq'
          rcases List.mem_append.1 hq' with h | h
          · exact HNo.out q h
          · simp at h; subst h; exact hd)
        rw [hd] at c7
        clear hq hqz hd hg
        go_wp2_with fail
        go_roundw
        case rel => exact ⟨k + 1, by omega, by go_num, HX.out, HB.out⟩
        case measure => simp [intOf]; omega
    · have hkl : ¬ (k : Int) < (nm : Int) := by omega
      have hall : (zm.all fun q => q.1.dn) = true := List.all_eq_true.2 fun q hq => HNo.out q (by
        rw [List.take_of_length_le (by have := HZl.out; omega)]; exact hq)
      have HV2 := Lib.hid (show ((tcUp && (dcUp && (ready && decide (an = 0)))) && (decide (low = eosl) && (decide (eosl = stable) && decide (stable = last)))) = bv from by
        rw [← HV.out, hall, Bool.and_true])
      have hh := HA.out.on HB.out
      have c0 : wr.cell? ⟨sx, 0, none⟩ = some (.bool tcUp) := by rw [hh.cell]; rfl
      have c1 : wr.cell? ⟨sx, 1, none⟩ = some (.bool dcUp) := by rw [hh.cell]; rfl
      have c2 : wr.cell? ⟨sx, 2, none⟩ = some (.bool ready) := by rw [hh.cell]; rfl
      have c5 : wr.cell? ⟨sx, 5, none⟩ = some (.int .u64 (stable : Nat)) := by rw [hh.cell]; rfl
      have c6 : wr.cell? ⟨sx, 6, none⟩ = some (.int .u64 (last : Nat)) := by rw [hh.cell]; rfl
      have c7 : wr.cell? ⟨sx, 7, none⟩ = some (.int .u64 (eosl : Nat)) := by rw [hh.cell]; rfl
      have c8 : wr.cell? ⟨sx, 8, none⟩ = some (.int .u64 (low : Nat)) := by rw [hh.cell]; rfl
      have c10 : wr.cell? ⟨sx, 10, none⟩ = some (.slice aa an ac) := by rw [hh.cell]; rfl
      clear hall hh
      cases tcUp with
      | false =>
        have HX := Lib.hid (show bv = false by rw [← HV2.out]; simp)
        go_wp2_with fail
        go_ret
        rw [HX.out]
        exact ⟨by try rfl, HT.out⟩
      | true =>
        cases dcUp with
        | false =>
          have HX := Lib.hid (show bv = false by rw [← HV2.out]; simp)
          go_wp2_with fail
          go_ret
          rw [HX.out]
          exact ⟨by try rfl, HT.out⟩
        | true =>
          cases ready with
          | false =>
            have HX := Lib.hid (show bv = false by rw [← HV2.out]; simp)
            go_wp2_with fail
            go_ret
            rw [HX.out]
            exact ⟨by try rfl, HT.out⟩
          | true =>
            by_cases hlow : low = eosl
            rotate_left
            · have elow : ((low : Int) == (eosl : Int)) = false := by simp; omega
              have HX := Lib.hid (show bv = false by rw [← HV2.out]; simp [hlow])
              go_wp2_with fail
              go_ret
              rw [HX.out]
              exact ⟨by try rfl, HT.out⟩
            have elow : ((low : Int) == (eosl : Int)) = true := by simp [hlow]
            by_cases heosl : eosl = stable
            rotate_left
            · have eeosl : ((eosl : Int) == (stable : Int)) = false := by simp; omega
              have HX := Lib.hid (show bv = false by rw [← HV2.out]; simp [heosl])
              go_wp2_with fail
              go_ret
              rw [HX.out]
              exact ⟨by try rfl, HT.out⟩
            have eeosl : ((eosl : Int) == (stable : Int)) = true := by simp [heosl]
            by_cases hstable : stable = last
            rotate_left
            · have estable : ((stable : Int) == (last : Int)) = false := by simp; omega
              have HX := Lib.hid (show bv = false by rw [← HV2.out]; simp [hstable])
              go_wp2_with fail
              go_ret
              rw [HX.out]
              exact ⟨by try rfl, HT.out⟩
            have estable : ((stable : Int) == (last : Int)) = true := by simp [hstable]
            by_cases han : an = 0
            · have ean : ((an : Int) == 0) = true := by simp [han]
              have HX := Lib.hid (show bv = true by rw [← HV2.out]; simp [han, hlow, heosl, hstable])
              clear han hlow heosl hstable
              go_wp2_with fail
              go_ret
              rw [HX.out]
              exact ⟨by try rfl, HT.out⟩
            · have ean : ((an : Int) == 0) = false := by simp; omega
              have HX := Lib.hid (show bv = false by rw [← HV2.out]; simp [han])
              clear han hlow heosl hstable
              go_wp2_with fail
              go_ret
              rw [HX.out]
              exact ⟨by try rfl, HT.out⟩
end Go.Proofs.YtecknikehieioaaGreat

/-! ### RefN -/
namespace Go.Proofs.YtecknikehieioaaGreat
set_option linter.unusedVariables false
set_option linter.unusedSimpArgs false
open Go.RowKit Go.Maps

theorem asc_snoc (T : List Nat) (j u v : Nat) (hu : T[j]? = some u) (hv : T[j + 1]? = some v) : ascB (T.take (j + 1 + 1)) = (ascB (T.take (j + 1)) && decide (u < v)) := by
  have e1 : T.take (j + 1 + 1) = T.take (j + 1) ++ [v] := by rw [List.take_add_one, hv]; rfl
  have e2 : T.take (j + 1) = T.take j ++ [u] := by rw [List.take_add_one, hu]; rfl
  unfold ascB
  rw [e1, ← Bool.decide_and]
  congr 1
  rw [List.pairwise_append]
  apply propext
  constructor
  · rintro ⟨h1, _, h3⟩
    exact ⟨h1, h3 u (by rw [e2]; simp) v (by simp)⟩
  · rintro ⟨h1, h2⟩
    refine ⟨h1, by simp, fun a ha b hb => ?_⟩
    simp only [List.mem_singleton] at hb
    subst hb
    rw [e2] at h1 ha
    rcases List.mem_append.1 ha with h | h
    · have := (List.pairwise_append.1 h1).2.2 a h u (by simp)
      omega
    · simp only [List.mem_singleton] at h; omega
set_option maxRecDepth 100000 in
set_option maxHeartbeats 8000000 in
theorem boundsR_any (w : World) (s : Sn) (T : List Nat) (hT : RowsAt w s.aa s.an s.ac 1 (u64s T)) (hl : T.length = s.an) :
    Calls Tryz.prog 20 #[.agg (snCells s).toArray] w (BoundsEnd s T w) := by
  obtain ⟨tcUp, dcUp, ready, sync, base, stable, last, eosl, low, ca, cn, cc, aa, an, ac, fly⟩ := s
  simp only at hT hl
  unfold BoundsEnd
  obtain ⟨bv, hbv⟩ : ∃ b, boundsL (⟨tcUp, dcUp, ready, sync, base, stable, last, eosl, low, ca, cn, cc, aa, an, ac, fly⟩ : Sn) T = b := ⟨_, rfl⟩
  rw [hbv]
  have HV := Lib.hid (show ((!tcUp || (decide (base ≤ stable) && decide (stable ≤ last))) && ((!dcUp || decide (low ≤ eosl)) && ((!tcUp || (!dcUp || decide (eosl ≤ stable))) && ((decide (an ≤ 6) && (decide (0 ≤ fly) && decide (fly ≤ 400))) && ascB T)))) = bv from by
    rw [← hbv, ← hl]; rfl)
  show Calls Tryz.prog 20 #[.agg #[.bool tcUp, .bool dcUp, .bool ready, .bool sync, .int .u64 (base : Nat), .int .u64 (stable : Nat), .int .u64 (last : Nat), .int .u64 (eosl : Nat), .int .u64 (low : Nat), .slice ca cn cc, .slice aa an ac, .int .i64 fly]] w _
  have hmax := hT.max
  have HTT := Lib.hid (hT.on ((Below.refl w.heap.size w).alloc (Nat.le_refl _) (.cells #[.bool tcUp, .bool dcUp, .bool ready, .bool sync, .int .u64 (base : Nat), .int .u64 (stable : Nat), .int .u64 (last : Nat), .int .u64 (eosl : Nat), .int .u64 (low : Nat), .slice ca cn cc, .slice aa an ac, .int .i64 fly] 47)))
  have HTl := Lib.hid hl
  have hA : Blk (w.alloc (.cells #[.bool tcUp, .bool dcUp, .bool ready, .bool sync, .int .u64 (base : Nat), .int .u64 (stable : Nat), .int .u64 (last : Nat), .int .u64 (eosl : Nat), .int .u64 (low : Nat), .slice ca cn cc, .slice aa an ac, .int .i64 fly] 47)) w.heap.size (snCells (⟨tcUp, dcUp, ready, sync, base, stable, last, eosl, low, ca, cn, cc, aa, an, ac, fly⟩ : Sn)) 47 := Blk.new w (snCells (⟨tcUp, dcUp, ready, sync, base, stable, last, eosl, low, ca, cn, cc, aa, an, ac, fly⟩ : Sn)) 47
  have hbn := (Below.refl w.heap.size w).alloc (Nat.le_refl _) (.cells #[.bool tcUp, .bool dcUp, .bool ready, .bool sync, .int .u64 (base : Nat), .int .u64 (stable : Nat), .int .u64 (last : Nat), .int .u64 (eosl : Nat), .int .u64 (low : Nat), .slice ca cn cc, .slice aa an ac, .int .i64 fly] 47)
  clear hT hl hbv
  go_enter Tryz.func20, Tryz.ntmps20
  go_upto_region 1 with fail
  obtain ⟨sx, hsx⟩ : ∃ x, w.heap.size = x := ⟨_, rfl⟩
  have HBN := Lib.hid hbn
  rw [hsx] at hA
  simp only [hsx]
  generalize w.alloc (.cells #[.bool tcUp, .bool dcUp, .bool ready, .bool sync, .int .u64 (base : Nat), .int .u64 (stable : Nat), .int .u64 (last : Nat), .int .u64 (eosl : Nat), .int .u64 (low : Nat), .slice ca cn cc, .slice aa an ac, .int .i64 fly] 47) = w1 at *
  have HA := Lib.hid hA
  clear hA hbn hsx
  obtain ⟨d0, hd0⟩ : ∃ b, (decide (an ≤ 6) && (decide (0 ≤ fly) && decide (fly ≤ 400))) = b := ⟨_, rfl⟩
  have HD := Lib.hid hd0
  have hh := HA.out
  have c0 : w1.cell? ⟨sx, 0, none⟩ = some (.bool tcUp) := by rw [hh.cell]; rfl
  have c1 : w1.cell? ⟨sx, 1, none⟩ = some (.bool dcUp) := by rw [hh.cell]; rfl
  have c4 : w1.cell? ⟨sx, 4, none⟩ = some (.int .u64 (base : Nat)) := by rw [hh.cell]; rfl
  have c5 : w1.cell? ⟨sx, 5, none⟩ = some (.int .u64 (stable : Nat)) := by rw [hh.cell]; rfl
  have c6 : w1.cell? ⟨sx, 6, none⟩ = some (.int .u64 (last : Nat)) := by rw [hh.cell]; rfl
  have c7 : w1.cell? ⟨sx, 7, none⟩ = some (.int .u64 (eosl : Nat)) := by rw [hh.cell]; rfl
  have c8 : w1.cell? ⟨sx, 8, none⟩ = some (.int .u64 (low : Nat)) := by rw [hh.cell]; rfl
  have c10 : w1.cell? ⟨sx, 10, none⟩ = some (.slice aa an ac) := by rw [hh.cell]; rfl
  have c11 : w1.cell? ⟨sx, 11, none⟩ = some (.int .i64 fly) := by rw [hh.cell]; rfl
  clear hd0 hh
  go_cut [3] (fun s3 wx => s3 = .bool d0 ∧ w1 = wx)
  case first =>
    by_cases h1 : an ≤ 6
    · have e1 : (an : Int) ≤ 6 := by omega
      by_cases h2 : 0 ≤ fly
      · have e2 : fly ≥ 0 := h2
        by_cases h3 : fly ≤ 400
        · have HX := Lib.hid (show d0 = true by rw [← HD.out]; simp [h1, h2, h3])
          clear h1
          go_wp2_with fail
          go_meet
          exact ⟨by rw [HX.out], rfl⟩
        · have HX := Lib.hid (show d0 = false by rw [← HD.out]; simp [h1, h2, h3])
          clear h1
          go_wp2_with fail
          go_meet
          exact ⟨by rw [HX.out], rfl⟩
      · have e2 : ¬ fly ≥ 0 := h2
        have HX := Lib.hid (show d0 = false by rw [← HD.out]; simp [h1, h2])
        clear h1
        go_wp2_with fail
        go_meet
        exact ⟨by rw [HX.out], rfl⟩
    · have e1 : ¬ (an : Int) ≤ 6 := by omega
      have HX := Lib.hid (show d0 = false by rw [← HD.out]; simp [h1])
      clear h1
      go_wp2_with fail
      go_meet
      exact ⟨by rw [HX.out], rfl⟩
  obtain ⟨rfl, rfl⟩ := hcut
  clear c0 c1 c4 c5 c6 c7 c8 c10 c11
  go_wp2_with fail
  go_loopw [3, 4] (fun s3 s4 wr => ∃ i : Nat, 1 ≤ i ∧ (i ≤ an ∨ i = 1) ∧ s4 = .int .i64 i ∧ s3 = .bool (d0 && ascB (T.take i)) ∧ Below w1.heap.size w1 wr) (fun _ s4 _ => an - (intOf s4).toNat)
  case atStart =>
    refine ⟨1, by omega, .inr rfl, rfl, ?_, Below.refl _ _⟩
    have : ascB (T.take 1) = true := by
      unfold ascB
      match T with
      | [] => rfl
      | x :: t => simp
    rw [this, Bool.and_true]
  case round =>
    obtain ⟨i, hi1, hi, rfl, rfl, hb⟩ := hrel
    have HB := Lib.hid hb
    have HT := Lib.hid (HBN.out.trans (hb.mono HBN.out.size))
    clear hb
    have hh := HA.out.on HB.out
    by_cases hlt : i < an
    · have hil : (i : Int) < (an : Int) := by omega
      obtain ⟨j, hj⟩ : ∃ j, j + 1 = i := ⟨i - 1, by omega⟩
      have hjl := HTl.out
      obtain ⟨u, hu⟩ : ∃ u, T[j]? = some u := ⟨_, List.getElem?_eq_getElem (by omega)⟩
      obtain ⟨v, hv⟩ : ∃ v, T[j + 1]? = some v := ⟨_, List.getElem?_eq_getElem (by omega)⟩
      have hsn := asc_snoc T j u v hu hv
      obtain ⟨g, o, e2, hg, hc⟩ := (HTT.out.on HB.out).at_ (by omega)
      have d1 := hc j _ (u64s_nth T j u hu)
      have d2 := hc (j + 1) _ (u64s_nth T (j + 1) v hv)
      have hji : (i : Int) - 1 = (j : Int) := by omega
      have hwj : IntKind.i64.wrap (j : Int) = (j : Int) := IntWalk.i64_in _ (by omega)
      have hjn : (j : Int) < (an : Int) := by omega
      rw [hj] at hsn d2
      have HF := Lib.hid (show ∀ w', Below wr.heap.size wr w' → (w'.cell? ⟨sx, 10, none⟩ = some (.slice (some ⟨g, o, none⟩) an ac) ∧ w'.cell? ⟨g, o + j, none⟩ = some (.int .u64 (u : Nat)) ∧ w'.cell? ⟨g, o + i, none⟩ = some (.int .u64 (v : Nat))) from fun w' hb => by
        refine ⟨?_, ?_, ?_⟩
        · rw [(hh.on hb).cell, ← e2]; rfl
        · rw [hb.cell (p := ⟨g, o + j, none⟩) hg]; exact d1
        · rw [hb.cell (p := ⟨g, o + i, none⟩) hg]; exact d2)
      have c10 : wr.cell? ⟨sx, 10, none⟩ = some (.slice (some ⟨g, o, none⟩) an ac) := by rw [hh.cell, ← e2]; rfl
      have HSn := Lib.hid hsn
      have HI := Lib.hid hi
      clear hj hjl hu hv hsn hc d1 d2 hh hi hg
      cases e2
      obtain ⟨b, hb⟩ : ∃ b, (d0 && ascB (T.take i)) = b := ⟨_, rfl⟩
      rw [hb]
      have HBb := Lib.hid hb
      clear hb
      cases b with
      | false =>
        have HX := Lib.hid (show (d0 && ascB (T.take (i + 1))) = false by rw [HSn.out, ← Bool.and_assoc, HBb.out]; rfl)
        go_upto_region 5 with fail
        refine wp_region_settle (Below wr.heap.size wr) (by kernel_rfl) (by kernel_rfl) (by kernel_rfl) (below_drew (Below.refl _ _)) ?_
        repeat (first
          | (refine settled_not ?_ ?_
             · rfl
             simp only [Act.put, List.setIfInBounds_toArray, List.set_cons_zero, List.set_cons_succ])
          | (refine settled_val (v := ?_) ?_ (fun w' hS => ?_) ?_
             rotate_left
             · rfl
             · obtain ⟨k0, k1, k2⟩ := HF.out w' hS
               go_simp
               with_reducible rfl
             simp only [Act.put, List.setIfInBounds_toArray, List.set_cons_zero, List.set_cons_succ]))
        refine settled_nil (fun w2 hS => ?_)
        have HE := Lib.hid (HB.out.trans (hS.mono HB.out.size))
        clear hS
        go_wp2_with fail
        go_roundw
        case rel => exact ⟨i + 1, by omega, by omega, by go_num, by rw [HX.out], HE.out⟩
        case measure => simp [intOf]; omega
      | true =>
        by_cases huv : u < v
        · have huvi : (u : Int) < (v : Int) := by omega
          have HX := Lib.hid (show (d0 && ascB (T.take (i + 1))) = true by rw [HSn.out, ← Bool.and_assoc, HBb.out, decide_eq_true huv]; rfl)
          clear huv
          go_upto_region 5 with fail
          refine wp_region_settle (Below wr.heap.size wr) (by kernel_rfl) (by kernel_rfl) (by kernel_rfl) (below_drew (Below.refl _ _)) ?_
          repeat (first
            | (refine settled_not ?_ ?_
               · rfl
               simp only [Act.put, List.setIfInBounds_toArray, List.set_cons_zero, List.set_cons_succ])
            | (refine settled_val (v := ?_) ?_ (fun w' hS => ?_) ?_
               rotate_left
               · rfl
               · obtain ⟨k0, k1, k2⟩ := HF.out w' hS
                 go_simp
                 with_reducible rfl
               simp only [Act.put, List.setIfInBounds_toArray, List.set_cons_zero, List.set_cons_succ]))
          refine settled_nil (fun w2 hS => ?_)
          have HE := Lib.hid (HB.out.trans (hS.mono HB.out.size))
          clear hS
          go_wp2_with fail
          go_roundw
          case rel => exact ⟨i + 1, by omega, by omega, by go_num, by rw [HX.out], HE.out⟩
          case measure => simp [intOf]; omega
        · have huvi : ¬ (u : Int) < (v : Int) := by omega
          have HX := Lib.hid (show (d0 && ascB (T.take (i + 1))) = false by rw [HSn.out, ← Bool.and_assoc, HBb.out, decide_eq_false huv]; rfl)
          clear huv
          go_upto_region 5 with fail
          refine wp_region_settle (Below wr.heap.size wr) (by kernel_rfl) (by kernel_rfl) (by kernel_rfl) (below_drew (Below.refl _ _)) ?_
          repeat (first
            | (refine settled_not ?_ ?_
               · rfl
               simp only [Act.put, List.setIfInBounds_toArray, List.set_cons_zero, List.set_cons_succ])
            | (refine settled_val (v := ?_) ?_ (fun w' hS => ?_) ?_
               rotate_left
               · rfl
               · obtain ⟨k0, k1, k2⟩ := HF.out w' hS
                 go_simp
                 with_reducible rfl
               simp only [Act.put, List.setIfInBounds_toArray, List.set_cons_zero, List.set_cons_succ]))
          refine settled_nil (fun w2 hS => ?_)
          have HE := Lib.hid (HB.out.trans (hS.mono HB.out.size))
          clear hS
          go_wp2_with fail
          go_roundw
          case rel => exact ⟨i + 1, by omega, by omega, by go_num, by rw [HX.out], HE.out⟩
          case measure => simp [intOf]; omega
    · have hil : ¬ (i : Int) < (an : Int) := by omega
      have hall : T.take i = T := List.take_of_length_le (by have := HTl.out; omega)
      rw [hall]
      obtain ⟨b1, hb1⟩ : ∃ b, (d0 && ascB T) = b := ⟨_, rfl⟩
      rw [hb1]
      obtain ⟨b2, hb2⟩ : ∃ b, (b1 && (!tcUp || (decide (base ≤ stable) && decide (stable ≤ last)))) = b := ⟨_, rfl⟩
      obtain ⟨b3, hb3⟩ : ∃ b, (b2 && (!dcUp || decide (low ≤ eosl))) = b := ⟨_, rfl⟩
      have HE := Lib.hid (show (b3 && (!tcUp || (!dcUp || decide (eosl ≤ stable)))) = bv by
        rw [← HV.out, HD.out, ← hb3, ← hb2, ← hb1]
        simp only [Bool.and_assoc, Bool.and_comm, Bool.and_left_comm])
      have H2 := Lib.hid hb2
      have H3 := Lib.hid hb3
      have c0 : wr.cell? ⟨sx, 0, none⟩ = some (.bool tcUp) := by rw [hh.cell]; rfl
      have c1 : wr.cell? ⟨sx, 1, none⟩ = some (.bool dcUp) := by rw [hh.cell]; rfl
      have c4 : wr.cell? ⟨sx, 4, none⟩ = some (.int .u64 (base : Nat)) := by rw [hh.cell]; rfl
      have c5 : wr.cell? ⟨sx, 5, none⟩ = some (.int .u64 (stable : Nat)) := by rw [hh.cell]; rfl
      have c6 : wr.cell? ⟨sx, 6, none⟩ = some (.int .u64 (last : Nat)) := by rw [hh.cell]; rfl
      have c7 : wr.cell? ⟨sx, 7, none⟩ = some (.int .u64 (eosl : Nat)) := by rw [hh.cell]; rfl
      have c8 : wr.cell? ⟨sx, 8, none⟩ = some (.int .u64 (low : Nat)) := by rw [hh.cell]; rfl
      have c10 : wr.cell? ⟨sx, 10, none⟩ = some (.slice aa an ac) := by rw [hh.cell]; rfl
      have c11 : wr.cell? ⟨sx, 11, none⟩ = some (.int .i64 fly) := by rw [hh.cell]; rfl
      clear hall hh hb1 hb2 hb3 HV HD
      go_upto_region 6 with fail
      go_upto_if 42 with fail
      go_cut [3] (fun s3 wx => s3 = .bool b2 ∧ wr = wx)
      case first =>
        cases tcUp with
        | false =>
          have HX := Lib.hid (show b2 = b1 by rw [← H2.out]; simp)
          go_wp2_with fail
          go_meet
          exact ⟨by rw [HX.out], rfl⟩
        | true =>
          cases b1 with
          | false =>
            have HX := Lib.hid (show b2 = false by rw [← H2.out]; simp)
            go_wp2_with fail
            go_meet
            exact ⟨by rw [HX.out], rfl⟩
          | true =>
            by_cases h1 : base ≤ stable
            · have e1 : (base : Int) ≤ (stable : Int) := by omega
              by_cases h2 : stable ≤ last
              · have e2 : (stable : Int) ≤ (last : Int) := by omega
                have HX := Lib.hid (show b2 = true by rw [← H2.out]; simp [h1, h2])
                clear h1 h2
                go_wp2_with fail
                go_meet
                exact ⟨by rw [HX.out], rfl⟩
              · have e2 : ¬ (stable : Int) ≤ (last : Int) := by omega
                have HX := Lib.hid (show b2 = false by rw [← H2.out]; simp [h1, h2])
                clear h1 h2
                go_wp2_with fail
                go_meet
                exact ⟨by rw [HX.out], rfl⟩
            · have e1 : ¬ (base : Int) ≤ (stable : Int) := by omega
              have HX := Lib.hid (show b2 = false by rw [← H2.out]; simp [h1])
              clear h1
              go_wp2_with fail
              go_meet
              exact ⟨by rw [HX.out], rfl⟩
      obtain ⟨rfl, rfl⟩ := hcut
      go_upto_region 8 with fail
      go_upto_if 59 with fail
      go_cut [3] (fun s3 wx => s3 = .bool b3 ∧ wr = wx)
      case first =>
        cases dcUp with
        | false =>
          have HX := Lib.hid (show b3 = b2 by rw [← H3.out]; simp)
          go_wp2_with fail
          go_meet
          exact ⟨by rw [HX.out], rfl⟩
        | true =>
          cases b2 with
          | false =>
            have HX := Lib.hid (show b3 = false by rw [← H3.out]; simp)
            go_wp2_with fail
            go_meet
            exact ⟨by rw [HX.out], rfl⟩
          | true =>
            by_cases h1 : low ≤ eosl
            · have e1 : (low : Int) ≤ (eosl : Int) := by omega
              have HX := Lib.hid (show b3 = true by rw [← H3.out]; simp [h1])
              clear h1
              go_wp2_with fail
              go_meet
              exact ⟨by rw [HX.out], rfl⟩
            · have e1 : ¬ (low : Int) ≤ (eosl : Int) := by omega
              have HX := Lib.hid (show b3 = false by rw [← H3.out]; simp [h1])
              clear h1
              go_wp2_with fail
              go_meet
              exact ⟨by rw [HX.out], rfl⟩
      obtain ⟨rfl, rfl⟩ := hcut
      cases tcUp with
      | false =>
        have HX := Lib.hid (show bv = b3 by rw [← HE.out]; simp)
        go_wp2_with fail
        go_ret
        rw [HX.out]
        exact ⟨by try rfl, HT.out⟩
      | true =>
        cases dcUp with
        | false =>
          have HX := Lib.hid (show bv = b3 by rw [← HE.out]; simp)
          go_wp2_with fail
          go_ret
          rw [HX.out]
          exact ⟨by try rfl, HT.out⟩
        | true =>
          cases b3 with
          | false =>
            have HX := Lib.hid (show bv = false by rw [← HE.out]; simp)
            go_wp2_with fail
            go_ret
            rw [HX.out]
            exact ⟨by try rfl, HT.out⟩
          | true =>
            by_cases h1 : eosl ≤ stable
            · have e1 : (eosl : Int) ≤ (stable : Int) := by omega
              have HX := Lib.hid (show bv = true by rw [← HE.out]; simp [h1])
              clear h1
              go_wp2_with fail
              go_ret
              rw [HX.out]
              exact ⟨by try rfl, HT.out⟩
            · have e1 : ¬ (eosl : Int) ≤ (stable : Int) := by omega
              have HX := Lib.hid (show bv = false by rw [← HE.out]; simp [h1])
              clear h1
              go_wp2_with fail
              go_ret
              rw [HX.out]
              exact ⟨by try rfl, HT.out⟩
end Go.Proofs.YtecknikehieioaaGreat

/-! ### CutR -/
namespace Go.Proofs.YtecknikehieioaaGreat
set_option linter.unusedVariables false
set_option linter.unusedSimpArgs false
open Go.RowKit Go.Maps

theorem RowsAt.some_of {w : World} {a : Option Addr} {n c k : Nat} {cells : List Value} (h : RowsAt w a n c k cells) (m : Nat) (hm : m ≤ n) (C : List Value) (hl : C.length = m * k) (hC : ∀ (i : Nat) (v : Value), C[i]? = some v → cells[i]? = some v) : RowsAt w a m c k C :=
  ⟨hl, Nat.le_trans hm h.cap, Nat.le_trans hm h.max, fun h0 => by
    obtain ⟨g, o, e, hg, hc⟩ := h.at_ (by omega)
    exact ⟨g, o, e, hg, fun i v hv => hc i v (hC i v hv)⟩⟩
theorem recs_take {w : World} {a : Option Addr} {n c : Nat} {R : List Rec} (h : RowsAt w a n c 4 (recsCells R)) (hn : n = R.length) (m : Nat) (hm : m ≤ n) : RowsAt w a m c 4 (recsCells (R.take m)) :=
  h.some_of m hm _ (by rw [recs_length, List.length_take]; congr 1; omega) fun i v hv => by
    have e : recsCells R = recsCells (R.take m) ++ recsCells (R.drop m) := by rw [← recs_append, List.take_append_drop]
    rw [e, List.getElem?_append_left (List.getElem?_eq_some_iff.1 hv).1]; exact hv
theorem made_take {w : World} {a : Option Addr} {n c : Nat} {z : List MZ} (h : MadeAt w a n c z) (m : Nat) (hm : m ≤ n) : MadeAt w a m c (z.take m) :=
  ⟨by rw [List.length_take, h.len]; omega, by
    have hl := h.len
    refine h.rows.some_of m hm _ (by rw [mds_length, List.length_map, List.length_take]; congr 1; omega) fun i v hv => ?_
    have e : mdsCells (z.map (·.1)) = mdsCells ((z.take m).map (·.1)) ++ mdsCells ((z.drop m).map (·.1)) := by
      unfold mdsCells
      rw [← List.flatMap_append, ← List.map_append, List.take_append_drop]
    rw [e, List.getElem?_append_left (List.getElem?_eq_some_iff.1 hv).1]; exact hv, fun q hq => h.each q (List.mem_of_mem_take hq)⟩
/-- Entries that a loop has gathered, whose operations lie where they lay. -/
structure CutG (z : List EZ) (w0 w : World) (v : Value) (i : Nat) (zs : List EZ) : Prop where
  len : zs.length = i
  own : w.ownsRow w0.heap.size 43 3 v i (entsCells (zs.map (·.1)))
  each : ∀ q ∈ zs, EntIs w0 q.1 q.2
  src : ∀ q ∈ zs, ∃ q0 ∈ z, ∀ w', EntIs w' q0.1 q0.2 → EntIs w' q.1 q.2
  small : ∀ q ∈ zs, q.2.ops.length ≤ 8
  below : Below w0.heap.size w0 w
def CutEnd (z : List EZ) (am : Option Addr) (nm cm : Nat) (zm : List MZ) (w : World) (e : Ending) (w' : World) : Prop :=
  ∃ (a' : Option Addr) (n' c' : Nat) (z' : List EZ) (m : Nat), e = .returned (.tuple #[.slice am m cm, .slice a' n' c']) ∧ m ≤ 40 ∧ MadeAt w' am m cm (zm.take m) ∧ EntsAt w' a' n' c' z' ∧ n' ≤ 20 ∧ (∀ q ∈ z', q.2.ops.length ≤ 8) ∧ m ≤ nm ∧ (∀ g o, a' = some ⟨g, o, none⟩ → w.heap.size ≤ g) ∧ (∀ q ∈ z', ∃ q0 ∈ z, ∀ w'', EntIs w'' q0.1 q0.2 → EntIs w'' q.1 q.2) ∧ Below w.heap.size w w'
set_option maxRecDepth 100000 in
set_option maxHeartbeats 4000000 in
theorem cut28_any (w : World) (am : Option Addr) (nm cm : Nat) (zm : List MZ) (hm : MadeAt w am nm cm zm) (a : Option Addr) (n c : Nat) (z : List EZ) (h : EntsAt w a n c z) :
    Calls Tryz.prog 8 #[.slice am nm cm, .slice a n c] w (CutEnd z am nm cm zm w) := by
  have HM := Lib.hid hm
  have HH := Lib.hid h
  have hnmax := h.rows.max
  have hmmax := hm.rows.max
  have hmcap := hm.rows.cap
  clear h hm
  go_enter Tryz.func8, Tryz.ntmps8
  go_wp2_with fail
  go_loopw [6, 7, 8] (fun s6 s7 _ wr => ∃ (i : Nat) (zs : List EZ), i ≤ n ∧ i ≤ 20 ∧ s7 = .int .i64 i ∧ CutG z w wr s6 i zs) (fun _ s7 _ _ => n - (intOf s7).toNat)
  case atStart => exact ⟨0, [], by omega, by omega, rfl, ⟨rfl, ⟨rfl, .inl ⟨rfl, rfl⟩⟩, by simp, by simp, by simp, Below.refl _ _⟩⟩
  case round =>
    obtain ⟨i, zs, hi, him, rfl, hG⟩ := hrel
    have HG := Lib.hid hG
    clear hG
    by_cases hlt : i < n ∧ i < 20
    · obtain ⟨hlt, hlm⟩ := hlt
      have hil : (i : Int) < (n : Int) := by omega
      have hml : (i : Int) < 20 := by omega
      obtain ⟨q, g, o, hq, hqz, rfl, hg, c0, c1, c2⟩ := (HH.out.on HG.out.below).row hlt
      have HQ := Lib.hid (HH.out.each q hqz)
      obtain ⟨⟨ts, first, qa, qn, qc⟩, x⟩ := q
      simp only at c0 c1 c2
      obtain ⟨m, hm⟩ : ∃ m, min qn 8 = m := ⟨_, rfl⟩
      have hmin : ∀ w', (Builtin.min_ #[3, 3] 3 #[.int .i64 (qn : Nat), .int .i64 8]).run Tryz.prog w' = .ok (.int .i64 (m : Nat)) w' := by
        intro w'
        rw [run_min_int2, show (if (8 : Int) < qn then (8 : Int) else qn) = m from by split <;> omega]
      have hq9 := HQ.out.rows.cap
      have hqn : qn = x.ops.length := HQ.out.n
      have hmq : m ≤ qn ∧ m ≤ 8 := by omega
      have HIs := Lib.hid (show EntIs w ⟨ts, first, qa, m, qc⟩ ⟨x.ts, x.first, x.ops.take m⟩ from
        ⟨HQ.out.ts, HQ.out.first, by show m = (x.ops.take m).length; rw [List.length_take]; omega, recs_take HQ.out.rows hqn m hmq.1, ⟨HQ.out.ok.ts, HQ.out.ok.first, fun r hr => HQ.out.ok.ops r (List.mem_of_mem_take hr)⟩⟩)
      have HSrc := Lib.hid (show ∃ q0 ∈ z, ∀ w', EntIs w' q0.1 q0.2 → EntIs w' ⟨ts, first, qa, m, qc⟩ ⟨x.ts, x.first, x.ops.take m⟩ from
        ⟨_, hqz, fun w' h => ⟨h.ts, h.first, by show m = (x.ops.take m).length; rw [List.length_take]; omega, recs_take h.rows h.n m hmq.1, ⟨h.ok.ts, h.ok.first, fun r hr => h.ok.ops r (List.mem_of_mem_take hr)⟩⟩⟩)
      have HSm := Lib.hid (show (x.ops.take m).length ≤ 8 from by rw [List.length_take]; omega)
      have hmi : (m : Int) ≤ (qc : Int) := by
        have : m ≤ qc := Nat.le_trans hmq.1 hq9
        omega
      have hm0 : (0 : Int) ≤ (m : Int) := by omega
      have hbn := (Below.refl wr.heap.size wr).alloc (Nat.le_refl _) (.cells #[.int .u64 (ts : Nat), .int .u64 (first : Nat), .slice qa qn qc] 43)
      have hA : Blk (wr.alloc (.cells #[.int .u64 (ts : Nat), .int .u64 (first : Nat), .slice qa qn qc] 43)) wr.heap.size [.int .u64 (ts : Nat), .int .u64 (first : Nat), .slice qa qn qc] 43 := Blk.new wr _ _
      have HBw := Lib.hid HG.out.below
      obtain ⟨E, hE⟩ : ∃ x, wr.heap.size = x := ⟨_, rfl⟩
      have HEq := Lib.hid hE
      clear hq hqz hm hqn hmq hq9 hg
      go_upto_region 6 with fail
      rw [hE] at hA
      try simp only [hE]
      generalize wr.alloc (.cells #[.int .u64 (ts : Nat), .int .u64 (first : Nat), .slice qa qn qc] 43) = w2 at *
      clear hE c0 c1 c2
      have HA := Lib.hid hA
      have HBn := Lib.hid hbn
      have f2 := hA.free 2
      have k2 : w2.cell? ⟨E, 2, none⟩ = some (.slice qa qn qc) := by rw [hA.cell]; rfl
      have hA4 := hA.set 2 (.slice qa m qc)
      have HA4 := Lib.hid hA4
      clear hA hbn hA4
      go_upto_region 7 with fail
      clear f2 k2
      have e0 : (w2.setCell ⟨E, 2, none⟩ (.slice qa m qc)).cell? ⟨E, 0, none⟩ = some (.int .u64 (ts : Nat)) := by rw [HA4.out.cell]; rfl
      have e1 : (w2.setCell ⟨E, 2, none⟩ (.slice qa m qc)).cell? ⟨E, 1, none⟩ = some (.int .u64 (first : Nat)) := by rw [HA4.out.cell]; rfl
      have e2 : (w2.setCell ⟨E, 2, none⟩ (.slice qa m qc)).cell? ⟨E, 2, none⟩ = some (.slice qa m qc) := by rw [HA4.out.cell]; rfl
      have hm4 : Mod [E] w2 (w2.setCell ⟨E, 2, none⟩ (.slice qa m qc)) := (Mod.refl _ _).setCell _ _ (.inl (by simp))
      have hm24 : Mod [E] wr (w2.setCell ⟨E, 2, none⟩ (.slice qa m qc)) := (Mod.of_below (S := [E]) HBn.out).trans hm4
      have hEq := HEq.out
      have hown4 : (w2.setCell ⟨E, 2, none⟩ (.slice qa m qc)).ownsRow w.heap.size 43 3 u6 i (entsCells (zs.map (·.1))) := ownsRow_mod HG.out.own hm24 (fun y hy e => by
        simp only [List.mem_singleton] at hy
        have := (HG.out.own.lt y e).2
        omega)
      have hs4 := hm24.size
      have hs0 := HG.out.below.size
      have hN := Blk.new (w2.setCell ⟨E, 2, none⟩ (.slice qa m qc)) (entCells ⟨ts, first, qa, m, qc⟩) 43
      obtain ⟨v', w', hrun, hown', hmod, _⟩ := own_append 23 43 23 _ 3 40 Tryz.underlying23 info_entry rfl (by decide) (by decide) (hown4.alloc (.cells (entCells ⟨ts, first, qa, m, qc⟩).toArray 43))
        (by omega) (by rw [World.size_alloc]; omega) ⟨(w2.setCell ⟨E, 2, none⟩ (.slice qa m qc)).heap.size, 0, none⟩ 1 1 (entCells ⟨ts, first, qa, m, qc⟩) (by omega) (by omega) rfl
        (fun j u hj => by rw [addr_add', Nat.zero_add, hN.cell]; exact hj) (fun u hu => by simp only [entCells, List.mem_cons, List.not_mem_nil, or_false] at hu; rcases hu with rfl | rfl | rfl <;> rfl)
      have hrun' : (Builtin.append_ #[23, 23] 23 #[u6, .slice (some ⟨(w2.setCell ⟨E, 2, none⟩ (.slice qa m qc)).heap.size, 0, none⟩) 1 1]).run Tryz.prog ((w2.setCell ⟨E, 2, none⟩ (.slice qa m qc)).alloc (.cells #[.int .u64 (ts : Nat), .int .u64 (first : Nat), .slice qa m qc] 43)) = .ok v' w' := hrun
      have HG' := Lib.hid (show CutG z w w' v' (i + 1) (zs ++ [((⟨ts, first, qa, m, qc⟩ : Ent), (⟨x.ts, x.first, x.ops.take m⟩ : Entry))]) from by
        refine ⟨by rw [List.length_append, HG.out.len]; rfl, ?_, fun q hq => ?_, fun q hq => ?_, fun q hq => ?_, ?_⟩
        · rw [List.map_append, ents_append]; exact hown'
        · rcases List.mem_append.1 hq with h | h
          · exact HG.out.each q h
          · simp only [List.mem_singleton] at h; subst h; exact HIs.out
        · rcases List.mem_append.1 hq with h | h
          · exact HG.out.src q h
          · simp only [List.mem_singleton] at h; subst h; exact HSrc.out
        · rcases List.mem_append.1 hq with h | h
          · exact HG.out.small q h
          · simp only [List.mem_singleton] at h; subst h; exact HSm.out
        · have hb4 : Below w.heap.size w (w2.setCell ⟨E, 2, none⟩ (.slice qa m qc)) := HG.out.below.trans (hm24.below (fun y hy => by simp only [List.mem_singleton] at hy; omega) hs0)
          have hb5 := hb4.alloc hb4.size (.cells (entCells ⟨ts, first, qa, m, qc⟩).toArray 43)
          exact hb5.trans (hmod.below (fun y hy => (hown4.lt y (by simpa using hy)).1) hb5.size))
      clear hm4 hm24 hown4 hN hrun hown' hmod hEq hs4 hs0
      generalize (w2.setCell ⟨E, 2, none⟩ (.slice qa m qc)) = w4 at *
      go_wp2_with (at_builtin; (with_reducible refine wpList_append_run rfl _ _ _ rfl _ _ _ _ ?_ ?_ hrun' ?_); rfl; rfl)
      go_roundw
      case rel => exact ⟨i + 1, _, by omega, by omega, by go_num, HG'.out⟩
      case measure => simp [intOf]; omega
    · obtain ⟨m, hm⟩ : ∃ m, min nm 40 = m := ⟨_, rfl⟩
      have hmin : ∀ w', (Builtin.min_ #[3, 3] 3 #[.int .i64 (nm : Nat), .int .i64 40]).run Tryz.prog w' = .ok (.int .i64 (m : Nat)) w' := by
        intro w'
        rw [run_min_int2, show (if (40 : Int) < nm then (40 : Int) else nm) = m from by split <;> omega]
      have hmi : (m : Int) ≤ (cm : Int) := by omega
      have hm0 : (0 : Int) ≤ (m : Int) := by omega
      have hm4 : m ≤ 40 ∧ m ≤ nm := by omega
      obtain ⟨a3, c3, rfl⟩ := own_slice HG.out.own
      have HE := Lib.hid (show CutEnd z am nm cm zm w (.returned (.tuple #[.slice am m cm, .slice a3 i c3])) wr from
        ⟨a3, i, c3, zs, m, rfl, hm4.1, made_take (HM.out.on HG.out.below) m hm4.2, ⟨HG.out.len, (own_rows HG.out.own).1, fun q hq => (HG.out.each q hq).on HG.out.below⟩, him, HG.out.small, hm4.2, (own_rows HG.out.own).2, HG.out.src, HG.out.below⟩)
      clear hm hm4
      by_cases h1 : i < n
      · have hil : (i : Int) < (n : Int) := by omega
        have hml : ¬ (i : Int) < 20 := by omega
        go_wp2_with fail
        refine bodyPost_ret (results_tmp2 rfl _ _ _) rfl ?_
        exact HE.out
      · have hil : ¬ (i : Int) < (n : Int) := by omega
        go_wp2_with fail
        refine bodyPost_ret (results_tmp2 rfl _ _ _) rfl ?_
        exact HE.out
end Go.Proofs.YtecknikehieioaaGreat

/-! ### Walk28S -/
namespace Go.Proofs.YtecknikehieioaaGreat
set_option linter.unusedVariables false
set_option linter.unusedSimpArgs false
open Go.RowKit Go.Maps

set_option maxRecDepth 100000 in
set_option maxHeartbeats 16000000 in
theorem sees_law (w : World) (s : Sn) (N : List Rec) (hN : RowsAt w s.ca s.cn s.cc 4 (recsCells N)) (eN : s.cn = N.length) (oN : ∀ r ∈ N, r.ok) (T : List Nat) (hT : RowsAt w s.aa s.an s.ac 1 (u64s T)) (hl : T.length = s.an)
    (a : Option Addr) (n c : Nat) (z : List EZ) (h : EntsAt w a n c z) (am : Option Addr) (nm cm : Nat) (zm : List MZ) (hm : MadeAt w am nm cm zm) :
    Calls Tryz.prog 6 #[.agg (snCells s).toArray, .slice a n c, .slice am nm cm] w fun e w' => e = .returned (.bool true) ∧ Below w.heap.size w w' := by
  have HWk := Lib.hid (fun w' => works28_any w')
  obtain ⟨tcUp, dcUp, ready, sync, base, stable, last, eosl, low, ca, cn, cc, aa, an, ac, fly⟩ := s
  simp only at hN eN hT hl
  show Calls Tryz.prog 6 #[.agg #[.bool tcUp, .bool dcUp, .bool ready, .bool sync, .int .u64 (base : Nat), .int .u64 (stable : Nat), .int .u64 (last : Nat), .int .u64 (eosl : Nat), .int .u64 (low : Nat), .slice ca cn cc, .slice aa an ac, .int .i64 fly], .slice a n c, .slice am nm cm] w _
  have hA : Blk (w.alloc (.cells #[.bool tcUp, .bool dcUp, .bool ready, .bool sync, .int .u64 (base : Nat), .int .u64 (stable : Nat), .int .u64 (last : Nat), .int .u64 (eosl : Nat), .int .u64 (low : Nat), .slice ca cn cc, .slice aa an ac, .int .i64 fly] 47)) w.heap.size (snCells (⟨tcUp, dcUp, ready, sync, base, stable, last, eosl, low, ca, cn, cc, aa, an, ac, fly⟩ : Sn)) 47 := Blk.new w (snCells (⟨tcUp, dcUp, ready, sync, base, stable, last, eosl, low, ca, cn, cc, aa, an, ac, fly⟩ : Sn)) 47
  have hbn := (Below.refl w.heap.size w).alloc (Nat.le_refl _) (.cells #[.bool tcUp, .bool dcUp, .bool ready, .bool sync, .int .u64 (base : Nat), .int .u64 (stable : Nat), .int .u64 (last : Nat), .int .u64 (eosl : Nat), .int .u64 (low : Nat), .slice ca cn cc, .slice aa an ac, .int .i64 fly] 47)
  have HN0 := Lib.hid hN
  have HT0 := Lib.hid hT
  have HH0 := Lib.hid h
  have HM0 := Lib.hid hm
  have HH := Lib.hid (h.on hbn)
  have HM := Lib.hid (hm.on hbn)
  have EN := Lib.hid eN
  have ON := Lib.hid oN
  have HL := Lib.hid hl
  have hcm := hN.max
  have hcp := hN.cap
  clear hN eN oN hT hl h hm
  go_enter Tryz.func6, Tryz.ntmps6
  go_upto_region 1 with fail
  obtain ⟨sx, hsx⟩ : ∃ x, w.heap.size = x := ⟨_, rfl⟩
  have HBN := Lib.hid hbn
  have HSx := Lib.hid hsx
  rw [hsx] at hA
  simp only [hsx]
  generalize w.alloc (.cells #[.bool tcUp, .bool dcUp, .bool ready, .bool sync, .int .u64 (base : Nat), .int .u64 (stable : Nat), .int .u64 (last : Nat), .int .u64 (eosl : Nat), .int .u64 (low : Nat), .slice ca cn cc, .slice aa an ac, .int .i64 fly] 47) = w1 at *
  have HA := Lib.hid hA
  have HCut := Lib.hid (cut28_any w1 am nm cm zm HM.out a n c z HH.out)
  have hsz1 := hA.lt
  clear hA hbn hsx
  go_wp2_with fail
  refine HCut.out.mono ?_
  rintro e w2 ⟨a', n', c', z', mm, rfl, hmm, hM2, hE2, hn2, hops2, hmn, hfar, hsrc, hb2⟩
  have HE2 := Lib.hid hE2
  have HOps := Lib.hid hops2
  have HFar := Lib.hid hfar
  have HSrc := Lib.hid hsrc
  have HB2 := Lib.hid hb2
  have HA2 := Lib.hid (HA.out.on hb2)
  clear hM2 hE2 hops2 hb2 HCut hfar hsrc
  obtain ⟨m, hm⟩ : ∃ m, min cn 60 = m := ⟨_, rfl⟩
  have hmin : ∀ w', (Builtin.min_ #[3, 3] 3 #[.int .i64 (cn : Nat), .int .i64 60]).run Tryz.prog w' = .ok (.int .i64 (m : Nat)) w' := by
    intro w'
    rw [run_min_int2, show (if (60 : Int) < cn then (60 : Int) else cn) = m from by split <;> omega]
  have hm0 : (0 : Int) ≤ (m : Int) := by omega
  have hmi : (m : Int) ≤ (cc : Int) := by omega
  have hm60 : m ≤ cn ∧ m ≤ 60 := by omega
  have f9 := HA2.out.free 9
  have k9 : w2.cell? ⟨sx, 9, none⟩ = some (.slice ca cn cc) := by rw [HA2.out.cell]; rfl
  have hA3 := HA2.out.set 9 (.slice ca m cc)
  have HA3 := Lib.hid (show SnAt (w2.setCell ⟨sx, 9, none⟩ (.slice ca m cc)) sx (⟨tcUp, dcUp, ready, sync, base, stable, last, eosl, low, ca, m, cc, aa, an, ac, fly⟩ : Sn) from ⟨hA3⟩)
  have hm3 : Mod [sx] w2 (w2.setCell ⟨sx, 9, none⟩ (.slice ca m cc)) := (Mod.refl _ _).setCell _ _ (.inl (by simp))
  have HM3 := Lib.hid hm3
  clear hm hA3 hm3
  go_wp2_with fail
  generalize (w2.setCell ⟨sx, 9, none⟩ (.slice ca m cc)) = w3 at *
  clear f9 k9
  have hb1 : Below w.heap.size w w2 := HBN.out.trans (HB2.out.mono HBN.out.size)
  have hb3 : Below w.heap.size w w3 := hb1.trans (HM3.out.below (fun x hx => by simp only [List.mem_singleton] at hx; have := HSx.out; omega) hb1.size)
  have HB3 := Lib.hid hb3
  have hN3 := recs_take HN0.out EN.out m hm60.1
  have HN3 := Lib.hid (hN3.on hb3)
  have HT3 := Lib.hid (HT0.out.on hb3)
  have HMa3 := Lib.hid ((made_take HM0.out mm hmn).on hb3)
  have HE3 := Lib.hid (show EntsAt w3 a' n' c' z' from ⟨HE2.out.len, HE2.out.rows.mod HM3.out (fun g o e => by have := HFar.out g o e; simp only [List.mem_singleton]; omega), fun q hq => by
    obtain ⟨q0, hq0, hh⟩ := HSrc.out q hq
    exact hh w3 ((HH0.out.each q0 hq0).on hb3)⟩)
  have EN3 := Lib.hid (show m = (N.take m).length by rw [List.length_take]; have := EN.out; omega)
  have ON3 := Lib.hid (show ∀ r ∈ N.take m, r.ok from fun r hr => ON.out r (List.mem_of_mem_take hr))
  clear hb1 hb3 hN3 HN0 HT0 HM0 HH0 HE2 HM3 HA2 HA HBN HB2 HFar HSrc EN ON
  obtain ⟨tv, htv⟩ : ∃ v, treeL (dcUp && sync) last stable low (N.take m) (opsOf (z'.map (·.2))) = v := ⟨_, rfl⟩
  obtain ⟨bv, hbv⟩ : ∃ v, boundsL (⟨tcUp, dcUp, ready, sync, base, stable, last, eosl, low, ca, m, cc, aa, an, ac, fly⟩ : Sn) T = v := ⟨_, rfl⟩
  obtain ⟨qv, hqv⟩ : ∃ v, quietL (⟨tcUp, dcUp, ready, sync, base, stable, last, eosl, low, ca, m, cc, aa, an, ac, fly⟩ : Sn) T (zm.take mm) = v := ⟨_, rfl⟩
  have HTr := Lib.hid (show ∀ w', Below w3.heap.size w3 w' → Calls Tryz.prog 17 #[.agg #[.bool tcUp, .bool dcUp, .bool ready, .bool sync, .int .u64 (base : Nat), .int .u64 (stable : Nat), .int .u64 (last : Nat), .int .u64 (eosl : Nat), .int .u64 (low : Nat), .slice ca m cc, .slice aa an ac, .int .i64 fly], .slice a' n' c'] w' fun e w'' => e = .returned (.int .i64 tv) ∧ Below w'.heap.size w' w'' from fun w' hb => by
    have := tree_any w' (⟨tcUp, dcUp, ready, sync, base, stable, last, eosl, low, ca, m, cc, aa, an, ac, fly⟩ : Sn) (N.take m) (HN3.out.on hb) EN3.out (by show m ≤ 100000; omega) ON3.out a' n' c' z' (HE3.out.on hb) (by omega) (fun q hq => by have := HOps.out q hq; omega)
    unfold TreeEnd at this
    simp only at this
    rw [htv] at this
    exact this)
  have HTr2 := Lib.hid (show ∀ w', Below w3.heap.size w3 w' → Calls Tryz.prog 18 #[.agg #[.bool tcUp, .bool dcUp, .bool ready, .bool sync, .int .u64 (base : Nat), .int .u64 (stable : Nat), .int .u64 (last : Nat), .int .u64 (eosl : Nat), .int .u64 (low : Nat), .slice ca m cc, .slice aa an ac, .int .i64 fly], .slice a' n' c'] w' fun e w'' => e = .returned (.int .i64 tv) ∧ Below w'.heap.size w' w'' from fun w' hb => by
    have := treeR_any w' (⟨tcUp, dcUp, ready, sync, base, stable, last, eosl, low, ca, m, cc, aa, an, ac, fly⟩ : Sn) (N.take m) (HN3.out.on hb) EN3.out (by show m ≤ 100000; omega) ON3.out a' n' c' z' (HE3.out.on hb) (by omega) (fun q hq => by have := HOps.out q hq; omega)
    unfold TreeEnd at this
    simp only at this
    rw [htv] at this
    exact this)
  have HBo := Lib.hid (show ∀ w', Below w3.heap.size w3 w' → Calls Tryz.prog 19 #[.agg #[.bool tcUp, .bool dcUp, .bool ready, .bool sync, .int .u64 (base : Nat), .int .u64 (stable : Nat), .int .u64 (last : Nat), .int .u64 (eosl : Nat), .int .u64 (low : Nat), .slice ca m cc, .slice aa an ac, .int .i64 fly]] w' fun e w'' => e = .returned (.bool bv) ∧ Below w'.heap.size w' w'' from fun w' hb => by
    have := bounds_any w' (⟨tcUp, dcUp, ready, sync, base, stable, last, eosl, low, ca, m, cc, aa, an, ac, fly⟩ : Sn) T (HT3.out.on hb) HL.out
    unfold BoundsEnd at this
    rw [hbv] at this
    exact this)
  have HBo2 := Lib.hid (show ∀ w', Below w3.heap.size w3 w' → Calls Tryz.prog 20 #[.agg #[.bool tcUp, .bool dcUp, .bool ready, .bool sync, .int .u64 (base : Nat), .int .u64 (stable : Nat), .int .u64 (last : Nat), .int .u64 (eosl : Nat), .int .u64 (low : Nat), .slice ca m cc, .slice aa an ac, .int .i64 fly]] w' fun e w'' => e = .returned (.bool bv) ∧ Below w'.heap.size w' w'' from fun w' hb => by
    have := boundsR_any w' (⟨tcUp, dcUp, ready, sync, base, stable, last, eosl, low, ca, m, cc, aa, an, ac, fly⟩ : Sn) T (HT3.out.on hb) HL.out
    unfold BoundsEnd at this
    rw [hbv] at this
    exact this)
  have HQu := Lib.hid (show ∀ w', Below w3.heap.size w3 w' → Calls Tryz.prog 21 #[.agg #[.bool tcUp, .bool dcUp, .bool ready, .bool sync, .int .u64 (base : Nat), .int .u64 (stable : Nat), .int .u64 (last : Nat), .int .u64 (eosl : Nat), .int .u64 (low : Nat), .slice ca m cc, .slice aa an ac, .int .i64 fly], .slice am mm cm] w' fun e w'' => e = .returned (.bool qv) ∧ Below w'.heap.size w' w'' from fun w' hb => by
    have := quiet_any w' (⟨tcUp, dcUp, ready, sync, base, stable, last, eosl, low, ca, m, cc, aa, an, ac, fly⟩ : Sn) T HL.out am mm cm (zm.take mm) (HMa3.out.on hb) (by omega)
    unfold QuietEnd at this
    rw [hqv] at this
    exact this)
  have HQu2 := Lib.hid (show ∀ w', Below w3.heap.size w3 w' → Calls Tryz.prog 22 #[.agg #[.bool tcUp, .bool dcUp, .bool ready, .bool sync, .int .u64 (base : Nat), .int .u64 (stable : Nat), .int .u64 (last : Nat), .int .u64 (eosl : Nat), .int .u64 (low : Nat), .slice ca m cc, .slice aa an ac, .int .i64 fly], .slice am mm cm] w' fun e w'' => e = .returned (.bool qv) ∧ Below w'.heap.size w' w'' from fun w' hb => by
    have := quietR_any w' (⟨tcUp, dcUp, ready, sync, base, stable, last, eosl, low, ca, m, cc, aa, an, ac, fly⟩ : Sn) T HL.out am mm cm (zm.take mm) (HMa3.out.on hb) (by omega)
    unfold QuietEnd at this
    rw [hqv] at this
    exact this)
  have HF := Lib.hid (show ∀ w', Below w3.heap.size w3 w' → SnCells w' sx (⟨tcUp, dcUp, ready, sync, base, stable, last, eosl, low, ca, m, cc, aa, an, ac, fly⟩ : Sn) from fun w' hb => (HA3.out.on hb).cells)
  unfold SnCells at HF
  have et : (tv == tv) = true := by simp
  have eb : (bv == bv) = true := by simp
  have eq : (qv == qv) = true := by simp
  clear htv hbv hqv
  refine wp_region_settle (Below w3.heap.size w3) (by kernel_rfl) (by kernel_rfl) (by kernel_rfl) (below_drew (Below.refl _ _)) ?_
  repeat (first
    | (refine settled_not ?_ ?_
       · rfl
       simp only [Act.put, List.setIfInBounds_toArray, List.set_cons_zero, List.set_cons_succ])
    | (refine settled_val (v := ?_) ?_ (fun w' hS => ?_) ?_
       rotate_left
       · rfl
       · obtain ⟨k0, k1, k2, k3, k4, k5, k6, k7, k8, k9, k10, k11⟩ := HF.out w' hS
         go_simp
         with_reducible rfl
       simp only [Act.put, List.setIfInBounds_toArray, List.set_cons_zero, List.set_cons_succ])
    | (refine settled_call (f := 17) (v := .int .i64 tv) ?_ (fun w' hS => ?_) (fun w' hS => ((HTr.out w' hS).mono fun e w'' ⟨h1, h2⟩ => ⟨h1, hS.trans (h2.mono hS.size)⟩)) ?_
       · rfl
       · go_simp
       simp only [Act.put, List.setIfInBounds_toArray, List.set_cons_zero, List.set_cons_succ])
    | (refine settled_call (f := 18) (v := .int .i64 tv) ?_ (fun w' hS => ?_) (fun w' hS => ((HTr2.out w' hS).mono fun e w'' ⟨h1, h2⟩ => ⟨h1, hS.trans (h2.mono hS.size)⟩)) ?_
       · rfl
       · go_simp
       simp only [Act.put, List.setIfInBounds_toArray, List.set_cons_zero, List.set_cons_succ])
    | (refine settled_call (f := 19) (v := .bool bv) ?_ (fun w' hS => ?_) (fun w' hS => ((HBo.out w' hS).mono fun e w'' ⟨h1, h2⟩ => ⟨h1, hS.trans (h2.mono hS.size)⟩)) ?_
       · rfl
       · go_simp
       simp only [Act.put, List.setIfInBounds_toArray, List.set_cons_zero, List.set_cons_succ])
    | (refine settled_call (f := 20) (v := .bool bv) ?_ (fun w' hS => ?_) (fun w' hS => ((HBo2.out w' hS).mono fun e w'' ⟨h1, h2⟩ => ⟨h1, hS.trans (h2.mono hS.size)⟩)) ?_
       · rfl
       · go_simp
       simp only [Act.put, List.setIfInBounds_toArray, List.set_cons_zero, List.set_cons_succ])
    | (refine settled_call (f := 21) (v := .bool qv) ?_ (fun w' hS => ?_) (fun w' hS => ((HQu.out w' hS).mono fun e w'' ⟨h1, h2⟩ => ⟨h1, hS.trans (h2.mono hS.size)⟩)) ?_
       · rfl
       · go_simp
       simp only [Act.put, List.setIfInBounds_toArray, List.set_cons_zero, List.set_cons_succ])
    | (refine settled_call (f := 22) (v := .bool qv) ?_ (fun w' hS => ?_) (fun w' hS => ((HQu2.out w' hS).mono fun e w'' ⟨h1, h2⟩ => ⟨h1, hS.trans (h2.mono hS.size)⟩)) ?_
       · rfl
       · go_simp
       simp only [Act.put, List.setIfInBounds_toArray, List.set_cons_zero, List.set_cons_succ])
    | (refine settled_call (f := 15) (v := .bool true) ?_ (fun w' hS => ?_) (fun w' hS => ((HWk.out w').mono fun e w'' ⟨h1, h2⟩ => ⟨h1, hS.trans (h2.mono hS.size)⟩)) ?_
       · rfl
       · go_simp
       simp only [Act.put, List.setIfInBounds_toArray, List.set_cons_zero, List.set_cons_succ]))
  refine settled_nil (fun w' hS => ?_)
  have HLast := Lib.hid (HB3.out.trans (hS.mono HB3.out.size))
  clear hS
  go_wp2_with fail
  go_ret
  exact ⟨by try rfl, HLast.out⟩
end Go.Proofs.YtecknikehieioaaGreat
