/-
  Texts folded into one: Mcut, Nums, Order, RfOrd, Walk27A.
-/
import Derived.Test.YtffianjbljgnaaaGreatSerial
import Derived.Test.YtffianjbljgnaaaGreatApp
import Derived.Great.BuildSlice
import Derived.Test.YtffianjbljgnaaaGreatIndex
import Derived.Test.YtffianjbljgnaaaGreatRfCalls
import Derived.Deep.DeepCutAuto
import Derived.Test.YtffianjbljgnaaaGreatWork27
import Derived.Test.YtffianjbljgnaaaGreatRfSer

/-! ### Mcut -/
namespace Go.Proofs.YtffianjbljgnaaaGreat
set_option linter.unusedVariables false
set_option linter.unusedSimpArgs false
open Go.RowKit Go.Maps

theorem RowsAt.part {w : World} {a : Option Addr} {n c k : Nat} {cells : List Value} (h : RowsAt w a n c k cells) (m : Nat) (hm : m ≤ n) (C : List Value) (hl : C.length = m * k) (hC : ∀ (i : Nat) (v : Value), C[i]? = some v → cells[i]? = some v) : RowsAt w a m c k C :=
  ⟨hl, Nat.le_trans hm h.cap, Nat.le_trans hm h.max, fun h0 => by
    obtain ⟨g, o, e, hg, hc⟩ := h.at_ (by omega)
    exact ⟨g, o, e, hg, fun i v hv => hc i v (hC i v hv)⟩⟩
theorem pairs_takeR {w : World} {a : Option Addr} {n c : Nat} {R : List KV} (h : RowsAt w a n c 2 (pairsCells R)) (hn : n = R.length) (m : Nat) (hm : m ≤ n) : RowsAt w a m c 2 (pairsCells (R.take m)) :=
  h.part m hm _ (by rw [pairs_length, List.length_take]; congr 1; omega) fun i v hv => by
    have e : pairsCells R = pairsCells (R.take m) ++ pairsCells (R.drop m) := by rw [← pairs_append, List.take_append_drop]
    rw [e, List.getElem?_append_left (List.getElem?_eq_some_iff.1 hv).1]; exact hv
theorem mds_oneR (l : List Md) : ∀ u ∈ mdsCells l, u.oneCell' = true := by
  intro u hu
  unfold mdsCells at hu
  obtain ⟨r, _, hr⟩ := List.mem_flatMap.1 hu
  simp only [mdCells, List.mem_cons, List.not_mem_nil, or_false] at hr
  rcases hr with rfl | rfl | rfl | rfl | rfl | rfl | rfl | rfl | rfl | rfl | rfl | rfl | rfl | rfl | rfl | rfl <;> rfl
theorem bytes_madeR : (Tryz.prog.info? 45).map (fun i => (i.zero, i.size, i.bytes)) = some (some (.agg #[.int .u64 0, .int .i64 0, .int .i64 0, .int .u64 0, .string ⟨#[]⟩, .string ⟨#[]⟩, .string ⟨#[]⟩, .bool false, .int .u64 0, .int .i64 0, .int .i64 0, .bool false, .string ⟨#[]⟩, .slice none 0 0, .int .i64 0, .int .i64 0]), 16, 176) := by kernel_rfl
section
variable {ops : Array Oper} {Q : Exit → Act → World → Prop} {o : Oper} {rest : List Oper} {a : Act} {w : World}
theorem info_made0R : ∃ ie z, Tryz.prog.info? 45 = some ie ∧ ie.zero = some z ∧ ie.size = 16 ∧ z.cells = #[.int .u64 0, .int .i64 0, .int .i64 0, .int .u64 0, .string ⟨#[]⟩, .string ⟨#[]⟩, .string ⟨#[]⟩, .bool false, .int .u64 0, .int .i64 0, .int .i64 0, .bool false, .string ⟨#[]⟩, .slice none 0 0, .int .i64 0, .int .i64 0] := by
  have h : (Tryz.prog.info? 45).map (fun i => (i.zero, i.size)) = some (some (.agg #[.int .u64 0, .int .i64 0, .int .i64 0, .int .u64 0, .string ⟨#[]⟩, .string ⟨#[]⟩, .string ⟨#[]⟩, .bool false, .int .u64 0, .int .i64 0, .int .i64 0, .bool false, .string ⟨#[]⟩, .slice none 0 0, .int .i64 0, .int .i64 0]), 16) := by kernel_rfl
  obtain ⟨i, hi, hzz⟩ := Option.map_eq_some_iff.1 h
  simp only [Prod.mk.injEq] at hzz
  exact ⟨i, _, hi, hzz.1, hzz.2, rfl⟩
theorem wpList_buildMR (hg : o.guard = none) (x0 : Operand) (ho : o.op = .buildSlice 23 1 #[(0, x0)]) (m0 : Md)
    (h0 : a.eval x0 = .agg (mdCells m0).toArray)
    (h : wpList Tryz.prog ops Q rest (a.put o.dst (.slice (some ⟨w.heap.size, 0, none⟩) 1 1)) (w.alloc (.cells (mdsCells [m0]).toArray 45))) : wpList Tryz.prog ops Q (o :: rest) a w :=
  wpList_plain hg fun K hK => by
    obtain ⟨ie, z, hie, hz, hs, hzc⟩ := info_made0R
    refine wp_buildSlice 23 45 1 _ ho (mdsCells [m0]).toArray ie z Tryz.underlying23 hie hz (by rw [hs]; decide) (by rw [hs]; decide) ?_ (hK _ _ h)
    rw [hs, hzc]
    have e : (Array.map (fun x : Nat × Operand => (x.1, a.eval x.2)) #[(0, x0)]).toList = [(0, .agg (mdCells m0).toArray)] := by
      simp [h0]
    refine Eq.trans (congrArg _ e) ?_
    kernel_rfl
end
theorem md_of_blk {w : World} {b : Nat} {m : Md} {T : TypeId} (h : Blk w b (mdCells m) T) : MdCellsAt w b 0 m := by
  refine ⟨?_, ?_, ?_, ?_, ?_, ?_, ?_, ?_, ?_, ?_, ?_, ?_, ?_, ?_, ?_, ?_⟩ <;> (rw [h.cell]; rfl)
def isK (q : MZ) : Prop := -9223372036854775808 ≤ q.1.kind ∧ q.1.kind ≤ 9223372036854775807
/-- Calls that a loop has gathered, whose pairs lie where they lay. -/
structure MadeG (w0 w : World) (v : Value) (i : Nat) (zs : List MZ) : Prop where
  len : zs.length = i
  own : w.ownsRow w0.heap.size 45 16 v i (mdsCells (zs.map (·.1)))
  each : ∀ q ∈ zs, MdIs w0 q
  kind : ∀ q ∈ zs, isK q
  below : Below w0.heap.size w0 w
def MadeEnd (w : World) (e : Ending) (w' : World) : Prop :=
  ∃ (a' : Option Addr) (n' c' : Nat) (z' : List MZ), e = .returned (.slice a' n' c') ∧ n' ≤ 60 ∧ MadeAt w' a' n' c' z' ∧ (∀ q ∈ z', isK q) ∧ Below w.heap.size w w'
set_option maxRecDepth 100000 in
set_option maxHeartbeats 8000000 in
theorem made27_any (w : World) (am : Option Addr) (nm cm : Nat) (zm : List MZ) (hm : MadeAt w am nm cm zm) (hk : ∀ q ∈ zm, isK q) :
    Calls Tryz.prog 5 #[.slice am nm cm] w (MadeEnd w) := by
  have HH := Lib.hid hm
  have HK := Lib.hid hk
  have hnmax := hm.rows.max
  clear hm hk
  go_enter Tryz.func5, Tryz.ntmps5
  go_wp2_with fail
  go_loopw [3, 4, 5] (fun s3 s4 _ wr => ∃ (i : Nat) (zs : List MZ), i ≤ nm ∧ i ≤ 60 ∧ s4 = .int .i64 i ∧ MadeG w wr s3 i zs) (fun _ s4 _ _ => nm - (intOf s4).toNat)
  case atStart => exact ⟨0, [], by omega, by omega, rfl, ⟨rfl, ⟨rfl, .inl ⟨rfl, rfl⟩⟩, by simp, by simp, Below.refl _ _⟩⟩
  case round =>
    obtain ⟨i, zs, hi, him, rfl, hG⟩ := hrel
    have HG := Lib.hid hG
    clear hG
    by_cases hlt : i < nm ∧ i < 60
    · obtain ⟨hlt, hlm⟩ := hlt
      have hil : (i : Int) < (nm : Int) := by omega
      have hml : (i : Int) < 60 := by omega
      obtain ⟨q, g, o, hq, hqz, rfl, hg, hc⟩ := (HH.out.on HG.out.below).row hlt
      have HQ := Lib.hid (HH.out.each q hqz)
      have HQk := Lib.hid (HK.out q hqz)
      have HC := Lib.hid hc
      have hbn := (Below.refl wr.heap.size wr).alloc (Nat.le_refl _) (.cells (mdCells q.1).toArray 45)
      have hA := Blk.new wr (mdCells q.1) 45
      clear hq hqz hg hc
      go_upto_region 6 with (first | ((with_reducible refine wpList_loadM rfl _ rfl _ _ _ HC.out ?_ ?_); rfl) | ((with_reducible refine wpList_storeM rfl _ _ rfl _ q.1 ?_ ?_ ?_); rfl; rfl))
      try go_frame
      obtain ⟨xb, hxb⟩ : ∃ x, wr.heap.size = x := ⟨_, rfl⟩
      have HXe := Lib.hid hxb
      rw [hxb] at hA
      simp only [hxb]
      generalize wr.alloc (.cells (mdCells q.1).toArray 45) = w2 at *
      have HA := Lib.hid hA
      have HBn := Lib.hid hbn
      obtain ⟨⟨ts, n0, kind, cts, key, hi2, val, dn, ots, on, err, found, oval, pa, pn, pc, frm, til⟩, P⟩ := q
      clear hA hbn hxb HC
      obtain ⟨m, hm⟩ : ∃ m, min pn 20 = m := ⟨_, rfl⟩
      have hmin : ∀ w', (Builtin.min_ #[3, 3] 3 #[.int .i64 (pn : Nat), .int .i64 20]).run Tryz.prog w' = .ok (.int .i64 (m : Nat)) w' := by
        intro w'
        rw [run_min_int2, show (if (20 : Int) < pn then (20 : Int) else pn) = m from by split <;> omega]
      have hq9 : pn ≤ pc := HQ.out.rows.cap
      have hqn : pn = P.length := HQ.out.n
      have hmq : m ≤ pn ∧ m ≤ 20 := by omega
      have HIs := Lib.hid (show MdIs w (⟨ts, n0, kind, cts, key, hi2, val, dn, ots, on, err, found, oval, pa, m, pc, frm, til⟩, P.take m) from
        ⟨by show m = (P.take m).length; rw [List.length_take]; omega, pairs_takeR HQ.out.rows hqn m hmq.1, HQ.out.ts, HQ.out.key⟩)
      have hmi : (m : Int) ≤ (pc : Int) := by omega
      have hm0 : (0 : Int) ≤ (m : Int) := by omega
      have f2 := HA.out.free 13
      have k2 : w2.cell? ⟨xb, 13, none⟩ = some (.slice pa pn pc) := by rw [HA.out.cell]; rfl
      have hA4 : Blk (w2.setCell ⟨xb, 13, none⟩ (.slice pa m pc)) xb (mdCells ⟨ts, n0, kind, cts, key, hi2, val, dn, ots, on, err, found, oval, pa, m, pc, frm, til⟩) 45 := HA.out.set 13 (.slice pa m pc)
      have HA4 := Lib.hid hA4
      clear hm hqn hmq hq9 hA4
      go_upto_region 7 with fail
      clear f2 k2
      have hm4 : Mod [xb] w2 (w2.setCell ⟨xb, 13, none⟩ (.slice pa m pc)) := (Mod.refl _ _).setCell _ _ (.inl (by simp))
      have hm24 : Mod [xb] wr (w2.setCell ⟨xb, 13, none⟩ (.slice pa m pc)) := (Mod.of_below (S := [xb]) HBn.out).trans hm4
      have hEq := HXe.out
      have hown4 : (w2.setCell ⟨xb, 13, none⟩ (.slice pa m pc)).ownsRow w.heap.size 45 16 u3 i (mdsCells (zs.map (·.1))) := ownsRow_mod HG.out.own hm24 (fun y hy e => by
        simp only [List.mem_singleton] at hy
        have := (HG.out.own.lt y e).2
        omega)
      have hs4 := hm24.size
      have hs0 := HG.out.below.size
      have hb4 : Below w.heap.size w (w2.setCell ⟨xb, 13, none⟩ (.slice pa m pc)) := HG.out.below.trans (hm24.below (fun y hy => by simp only [List.mem_singleton] at hy; omega) hs0)
      generalize (w2.setCell ⟨xb, 13, none⟩ (.slice pa m pc)) = w4 at *
      have HM4 := Lib.hid (md_of_blk HA4.out)
      have hN : Blk (w4.alloc (.cells (mdsCells [(⟨ts, n0, kind, cts, key, hi2, val, dn, ots, on, err, found, oval, pa, m, pc, frm, til⟩ : Md)]).toArray 45)) w4.heap.size (mdsCells [(⟨ts, n0, kind, cts, key, hi2, val, dn, ots, on, err, found, oval, pa, m, pc, frm, til⟩ : Md)]) 45 := Blk.new w4 _ _
      obtain ⟨v', w', hrun, hown', hmod, _⟩ := own_append 23 45 23 _ 16 176 Tryz.underlying23 bytes_madeR rfl (by decide) (by decide) (hown4.alloc (.cells (mdsCells [(⟨ts, n0, kind, cts, key, hi2, val, dn, ots, on, err, found, oval, pa, m, pc, frm, til⟩ : Md)]).toArray 45))
        (by omega) (by rw [World.size_alloc]; omega) ⟨w4.heap.size, 0, none⟩ 1 1 (mdsCells [(⟨ts, n0, kind, cts, key, hi2, val, dn, ots, on, err, found, oval, pa, m, pc, frm, til⟩ : Md)]) (by omega) (by omega) rfl
        (fun j u hj => by rw [addr_add', Nat.zero_add, hN.cell]; exact hj) (mds_oneR _)
      have HG' := Lib.hid (show MadeG w w' v' (i + 1) (zs ++ [((⟨ts, n0, kind, cts, key, hi2, val, dn, ots, on, err, found, oval, pa, m, pc, frm, til⟩ : Md), P.take m)]) from by
        refine ⟨by rw [List.length_append, HG.out.len]; rfl, ?_, fun q hq => ?_, fun q hq => ?_, ?_⟩
        · rw [List.map_append, mds_append]; exact hown'
        · rcases List.mem_append.1 hq with h | h
          · exact HG.out.each q h
          · simp only [List.mem_singleton] at h; subst h; exact HIs.out
        · rcases List.mem_append.1 hq with h | h
          · exact HG.out.kind q h
          · simp only [List.mem_singleton] at h; subst h; exact HQk.out
        · have hb5 := hb4.alloc hb4.size (.cells (mdsCells [(⟨ts, n0, kind, cts, key, hi2, val, dn, ots, on, err, found, oval, pa, m, pc, frm, til⟩ : Md)]).toArray 45)
          exact hb5.trans (hmod.below (fun y hy => (hown4.lt y (by simpa using hy)).1) hb5.size))
      clear hm4 hm24 hown4 hN hown' hmod hEq hs4 hs0 hb4
      go_wp2_with (first | ((with_reducible refine wpList_loadM rfl _ rfl xb 0 _ HM4.out ?_ ?_); rfl) | ((with_reducible refine wpList_buildMR rfl _ rfl (⟨ts, n0, kind, cts, key, hi2, val, dn, ots, on, err, found, oval, pa, m, pc, frm, til⟩ : Md) ?_ ?_); rfl) | (at_builtin; (with_reducible refine wpList_append_run rfl _ _ _ rfl _ _ _ _ ?_ ?_ hrun ?_); rfl; rfl))
      go_roundw
      case rel => exact ⟨i + 1, _, by omega, by omega, by go_num, HG'.out⟩
      case measure => simp [intOf]; omega
    · obtain ⟨a3, c3, rfl⟩ := own_slice HG.out.own
      have HE := Lib.hid (show MadeEnd w (.returned (.slice a3 i c3)) wr from
        ⟨a3, i, c3, zs, rfl, him, ⟨HG.out.len, (own_rows HG.out.own).1, fun q hq => (HG.out.each q hq).on HG.out.below⟩, HG.out.kind, HG.out.below⟩)
      by_cases h1 : i < nm
      · have hil : (i : Int) < (nm : Int) := by omega
        have hml : ¬ (i : Int) < 60 := by omega
        go_wp2_with fail
        go_ret
        exact HE.out
      · have hil : ¬ (i : Int) < (nm : Int) := by omega
        go_wp2_with fail
        go_ret
        exact HE.out
end Go.Proofs.YtffianjbljgnaaaGreat

/-! ### Nums -/
namespace Go.Proofs.YtffianjbljgnaaaGreat
set_option linter.unusedVariables false
set_option linter.unusedSimpArgs false
open Go.RowKit

theorem nums_row {w : World} {a : Option Addr} {n c : Nat} {l : List Nat} (h : RowsAt w a n c 1 (u64s l)) (hl : n = l.length) {i : Nat} (hi : i < n) :
    ∃ (p : Nat) (g o : Nat), l[i]? = some p ∧ p ∈ l ∧ a = some ⟨g, o, none⟩ ∧ g < w.heap.size ∧ w.cell? ⟨g, o + i, none⟩ = some (.int .u64 (p : Nat)) := by
  obtain ⟨g, o, e, hg, hc⟩ := h.at_ (by omega)
  have hx : i < l.length := by omega
  exact ⟨l[i], g, o, List.getElem?_eq_getElem hx, List.getElem_mem hx, e, hg, hc _ _ (u64s_nth l i l[i] (List.getElem?_eq_getElem hx))⟩
set_option maxRecDepth 100000 in
set_option maxHeartbeats 4000000 in
theorem numbers_any (w : World) (a1 a2 : Option Addr) (n1 c1 n2 c2 : Nat) (P Q : List Nat) (h1 : RowsAt w a1 n1 c1 1 (u64s P)) (h2 : RowsAt w a2 n2 c2 1 (u64s Q)) (e1 : n1 = P.length) (e2 : n2 = Q.length) (hn : n1 ≤ 10000000) :
    Calls Tryz.prog 6 #[.slice a1 n1 c1, .slice a2 n2 c2] w fun e w' => e = .returned (.bool (decide (P = Q))) ∧ Below w.heap.size w w' := by
  have H1 := Lib.hid h1
  have H2 := Lib.hid h2
  have E1 := Lib.hid e1
  have E2 := Lib.hid e2
  clear h1 h2 e1 e2
  by_cases hl : n1 = n2
  · subst hl
    have hne : (n1 != n1) = false := by simp
    go_enter Tryz.func6, Tryz.ntmps6
    go_wp2_with fail
    go_loopw [5] (fun s13 wr => ∃ i : Nat, i ≤ n1 ∧ s13 = .int .i64 i ∧ P.take i = Q.take i ∧ Below w.heap.size w wr) (fun s13 _ => n1 - (intOf s13).toNat)
    case atStart => exact ⟨0, by omega, rfl, rfl, Below.refl _ _⟩
    case round =>
      obtain ⟨i, hi, rfl, heq, hb⟩ := hrel
      have HEq := Lib.hid heq
      clear heq
      by_cases hlt : i < n1
      · have hil : (i : Int) < (n1 : Int) := by omega
        obtain ⟨p, g, o, hp, _, rfl, hg, c0⟩ := nums_row (H1.out.on hb) E1.out hlt
        obtain ⟨q, g', o', hq, _, rfl, hg', d0⟩ := nums_row (H2.out.on hb) E2.out hlt
        have HF := Lib.hid (show ∀ w', Below wr.heap.size wr w' → (w'.cell? ⟨g, o + i, none⟩ = some (.int .u64 (p : Nat)) ∧ w'.cell? ⟨g', o' + i, none⟩ = some (.int .u64 (q : Nat))) from
          fun w' h => ⟨(h.cell (p := ⟨g, o + i, none⟩) hg).trans c0, (h.cell (p := ⟨g', o' + i, none⟩) hg').trans d0⟩)
        have HP := Lib.hid hp
        have HQ := Lib.hid hq
        clear hp hq c0 d0
        by_cases hpq : p = q
        · have hcmp : ((p : Int) != (q : Int)) = false := by simp [hpq]
          have HNext := Lib.hid (show P.take (i + 1) = Q.take (i + 1) by rw [List.take_add_one, List.take_add_one, HP.out, HQ.out, HEq.out, hpq])
          clear hpq
          go_upto_region 6 with fail
          refine wp_region_settle (Below wr.heap.size wr) (by kernel_rfl) (by kernel_rfl) (by kernel_rfl) (below_drew (Below.refl _ _)) ?_
          repeat (first
            | (refine settled_not ?_ ?_
               · rfl
               simp only [Act.put, List.setIfInBounds_toArray, List.set_cons_zero, List.set_cons_succ])
            | (refine settled_val (v := ?_) ?_ (fun w' hS => ?_) ?_
               rotate_left
               · rfl
               · obtain ⟨k0, k1⟩ := HF.out w' hS
                 go_simp
                 with_reducible rfl
               simp only [Act.put, List.setIfInBounds_toArray, List.set_cons_zero, List.set_cons_succ]))
          refine settled_nil (fun w2 hS => ?_)
          clear hcmp
          go_wp2_with fail
          go_roundw
          case rel => exact ⟨i + 1, by omega, by go_num, HNext.out, hb.trans (hS.mono hb.size)⟩
          case measure => simp [intOf]; omega
        · have hcmp : ((p : Int) != (q : Int)) = true := by simp; omega
          have HNe := Lib.hid (show decide (P = Q) = false from decide_eq_false (fun e => by
            have h1 := HP.out
            rw [e, HQ.out] at h1
            exact hpq (Option.some.inj h1).symm))
          clear hpq
          go_upto_region 6 with fail
          refine wp_region_settle (Below wr.heap.size wr) (by kernel_rfl) (by kernel_rfl) (by kernel_rfl) (below_drew (Below.refl _ _)) ?_
          repeat (first
            | (refine settled_not ?_ ?_
               · rfl
               simp only [Act.put, List.setIfInBounds_toArray, List.set_cons_zero, List.set_cons_succ])
            | (refine settled_val (v := ?_) ?_ (fun w' hS => ?_) ?_
               rotate_left
               · rfl
               · obtain ⟨k0, k1⟩ := HF.out w' hS
                 go_simp
                 with_reducible rfl
               simp only [Act.put, List.setIfInBounds_toArray, List.set_cons_zero, List.set_cons_succ]))
          refine settled_nil (fun w2 hS => ?_)
          clear hcmp
          have HB := Lib.hid (hb.trans (hS.mono hb.size))
          clear hS hb
          go_wp2_with fail
          go_ret
          exact ⟨by rw [HNe.out]; try rfl, HB.out⟩
      · have hge : ¬ (i : Int) < (n1 : Int) := by omega
        have HPQ := Lib.hid (show decide (P = Q) = true from decide_eq_true (by
          have h1 := HEq.out
          have hin : i = n1 := by omega
          rw [hin, List.take_of_length_le (by have := E1.out; omega), List.take_of_length_le (by have := E2.out; omega)] at h1
          exact h1))
        have HB := Lib.hid hb
        clear hb
        go_wp2_with fail
        go_ret
        exact ⟨by rw [HPQ.out]; try rfl, HB.out⟩
  · have hne : ((n1 : Int) != (n2 : Int)) = true := by simp; omega
    have HPQ := Lib.hid (show decide (P = Q) = false from decide_eq_false (fun e => by
      have h1 := E1.out
      have h2 := E2.out
      rw [e] at h1
      omega))
    clear hl
    go_enter Tryz.func6, Tryz.ntmps6
    go_wp2_with fail
    go_ret
    exact ⟨by rw [HPQ.out]; try rfl, Below.refl _ _⟩
end Go.Proofs.YtffianjbljgnaaaGreat

/-! ### Order -/
namespace Go.Proofs.YtffianjbljgnaaaGreat
set_option linter.unusedVariables false
set_option linter.unusedSimpArgs false
open Go.RowKit Go.Maps

def belowC (b x : Md) : Bool := ackM x && (decide (x.til ≤ b.frm) && decide (b.ts ≤ x.ts))
theorem firstAt_lt (f : Md → Bool) (z : List MZ) (i : Nat) : -1 ≤ firstAt f i z ∧ firstAt f i z < i + z.length ∨ firstAt f i z = -1 := by
  induction z generalizing i with
  | nil => exact .inr rfl
  | cons q t ih =>
    unfold firstAt
    split
    · left; simp; omega
    · have := ih (i + 1)
      simp only [List.length_cons]
      omega
theorem firstAt_any (f : Md → Bool) (z : List MZ) (i : Nat) : decide (0 ≤ firstAt f i z) = z.any fun q => f q.1 := by
  induction z generalizing i with
  | nil => rfl
  | cons q t ih =>
    unfold firstAt
    rw [List.any_cons]
    cases h : f q.1 with
    | true => simp
    | false => simp only [Bool.false_eq_true, if_false, Bool.false_or]; exact ih (i + 1)
def orderC (z : List MZ) (b : Md) : Bool := decide (b.kind = 0) && z.any fun q => belowC b q.1
def orderL (z : List MZ) : Int := firstAt (orderC z) 0 z
set_option maxRecDepth 100000 in
set_option maxHeartbeats 2000000 in
theorem order11_any (w : World) (x b : Md) (bb : Nat) (hb : MdCellsAt w bb 0 b) (hbl : bb < w.heap.size) :
    Calls Tryz.prog 30 #[.agg (mdCells x).toArray, .pointer (some ⟨bb, 0, none⟩)] w fun e w' => e = .returned (.bool (belowC b x)) ∧ Below w.heap.size w w' := by
  have hbn := (Below.refl w.heap.size w).alloc (Nat.le_refl _) (.cells (mdCells x).toArray 45)
  have HBN := Lib.hid hbn
  have HX := Lib.hid (md_box w x)
  have HBb := Lib.hid (hb.on hbl hbn)
  have hl : bb < (w.alloc (.cells (mdCells x).toArray 45)).heap.size := by simp; omega
  have hxl : w.heap.size < (w.alloc (.cells (mdCells x).toArray 45)).heap.size := by simp
  clear hbn hb
  go_enter Tryz.func30, Tryz.ntmps30
  go_upto_region 1 with fail
  generalize w.alloc (.cells (mdCells x).toArray 45) = w1 at *
  go_wp2_with ((with_reducible refine wpList_loadM rfl _ rfl _ _ _ HX.out ?_ ?_); rfl)
  refine (ack_any x w1).mono ?_
  rintro e w2 ⟨rfl, hb2⟩
  have HB2 := Lib.hid (HBN.out.trans (hb2.mono HBN.out.size))
  obtain ⟨d0, _, _, _, _, _, _, _, _, _, _, _, _, _, _, d15⟩ := HX.out.on hxl hb2
  obtain ⟨k0, _, _, _, _, _, _, _, _, _, _, _, _, _, k14, _⟩ := HBb.out.on hl hb2
  simp only [Nat.zero_add] at d15 k14
  clear hb2 hl hxl
  cases hak : ackM x with
  | false =>
    have HE := Lib.hid (show belowC b x = false by unfold belowC; rw [hak]; rfl)
    clear hak
    go_wp2_with fail
    go_ret
    exact ⟨by rw [HE.out]; try rfl, HB2.out⟩
  | true =>
    by_cases h1 : x.til ≤ b.frm
    · by_cases h2 : b.ts ≤ x.ts
      · have h3 : (b.ts : Int) ≤ (x.ts : Int) := by omega
        have HE := Lib.hid (show belowC b x = true by unfold belowC; rw [hak, decide_eq_true h1, decide_eq_true h2]; rfl)
        have H1 := Lib.hid h1
        have e1 : decide (x.til ≤ b.frm) = true := decide_eq_true h1
        have e2 : decide ((b.ts : Int) ≤ (x.ts : Int)) = true := decide_eq_true h3
        clear hak h2
        go_wp2_with fail
        go_ret
        exact ⟨by rw [HE.out]; first | rfl | (simp [h3]), HB2.out⟩
      · have h3 : ¬ (b.ts : Int) ≤ (x.ts : Int) := by omega
        have HE := Lib.hid (show belowC b x = false by unfold belowC; rw [hak, decide_eq_true h1, decide_eq_false h2]; rfl)
        have e1 : decide (x.til ≤ b.frm) = true := decide_eq_true h1
        clear hak h2
        go_wp2_with fail
        go_ret
        exact ⟨by rw [HE.out]; first | rfl | (simp; omega), HB2.out⟩
    · have HE := Lib.hid (show belowC b x = false by unfold belowC; rw [hak, decide_eq_false h1]; rfl)
      have e1 : decide (x.til ≤ b.frm) = false := decide_eq_false h1
      have H1 := Lib.hid (show b.frm < x.til by omega)
      clear hak
      go_wp2_with fail
      go_ret
      exact ⟨by rw [HE.out]; first | rfl | (have := H1.out; simp; omega), HB2.out⟩
set_option maxRecDepth 100000 in
set_option maxHeartbeats 4000000 in
theorem index11_any (w : World) (f : Md → Bool) (pb : Nat) (am : Option Addr) (nm cm : Nat) (zm : List MZ) (hm : MadeAt w am nm cm zm) (hnm : nm ≤ 100000)
    (hf : ∀ w' q, q ∈ zm → Below w.heap.size w w' → Calls Tryz.prog 30 #[.agg (mdCells q.1).toArray, .pointer (some ⟨pb, 0, none⟩)] w' fun e w'' => e = .returned (.bool (f q.1)) ∧ Below w'.heap.size w' w'') :
    Calls Tryz.prog 21 #[.slice am nm cm, .func (.func 30) #[] #[.pointer (some ⟨pb, 0, none⟩)]] w fun e w' => e = .returned (.int .i64 (firstAt f 0 zm)) ∧ Below w.heap.size w w' := by
  have HMM := Lib.hid hm
  have HF := Lib.hid hf
  clear hm hf
  go_enter Tryz.func21, Tryz.ntmps21
  go_wp2_with fail
  go_loopw [4, 5, 8] (fun _ _ s8 wr => ∃ i : Nat, i ≤ nm ∧ s8 = .int .i64 i ∧ firstAt f 0 zm = firstAt f i (zm.drop i) ∧ Below w.heap.size w wr) (fun _ _ s8 _ => nm - (intOf s8).toNat)
  case atStart => exact ⟨0, by omega, rfl, rfl, Below.refl _ _⟩
  case round =>
    obtain ⟨i, hi, rfl, hfi, hb⟩ := hrel
    by_cases hlt : i < nm
    · have hil : (i : Int) < (nm : Int) := by omega
      obtain ⟨q, g, o, hq, hqz, rfl, hg, hc⟩ := (HMM.out.on hb).row hlt
      have HN := Lib.hid (show firstAt f 0 zm = if f q.1 then (i : Int) else firstAt f (i + 1) (zm.drop (i + 1)) by rw [hfi, firstAt_drop _ _ _ _ hq])
      have HC := Lib.hid hc
      have HS := Lib.hid (HF.out wr q hqz hb)
      have HB := Lib.hid hb
      clear hfi hq hqz hc hb
      go_wp2_with ((with_reducible refine wpList_loadM rfl _ rfl _ _ _ HC.out ?_ ?_); rfl)
      refine HS.out.mono ?_
      rintro e w2 ⟨rfl, hb2⟩
      have HB2 := Lib.hid (HB.out.trans (hb2.mono HB.out.size))
      clear hb2
      cases hak : f q.1 with
      | true =>
        have HR := Lib.hid (show firstAt f 0 zm = (i : Int) by rw [HN.out, hak]; rfl)
        clear hak
        go_wp2_with fail
        go_ret
        exact ⟨by rw [HR.out]; try rfl, HB2.out⟩
      | false =>
        have HR := Lib.hid (show firstAt f 0 zm = firstAt f (i + 1) (zm.drop (i + 1)) by rw [HN.out, hak]; rfl)
        clear hak
        go_wp2_with fail
        go_roundw
        case rel => exact ⟨i + 1, by omega, by go_num, HR.out, HB2.out⟩
        case measure => simp [intOf]; omega
    · have hge : ¬ (i : Int) < (nm : Int) := by omega
      have HR := Lib.hid (show firstAt f 0 zm = -1 by
        have hin : i = zm.length := by rw [HMM.out.len]; omega
        rw [hfi, hin, List.drop_eq_nil_of_le (Nat.le_refl _)]; rfl)
      have HB := Lib.hid hb
      clear hfi hb
      go_wp2_with fail
      go_ret
      exact ⟨by rw [HR.out]; try rfl, HB.out⟩
set_option maxRecDepth 100000 in
set_option maxHeartbeats 2000000 in
theorem containsM_any (w : World) (b : Md) (bb : Nat) (hb : MdCellsAt w bb 0 b) (hbl : bb < w.heap.size) (am : Option Addr) (nm cm : Nat) (zm : List MZ) (hm : MadeAt w am nm cm zm) (hnm : nm ≤ 100000) :
    Calls Tryz.prog 29 #[.slice am nm cm, .func (.func 30) #[] #[.pointer (some ⟨bb, 0, none⟩)]] w fun e w' => e = .returned (.bool (zm.any fun q => belowC b q.1)) ∧ Below w.heap.size w w' := by
  have HI := Lib.hid (index11_any w (belowC b) bb am nm cm zm hm hnm fun w' q _ hb' => order11_any w' q.1 b bb (hb.on hbl hb') (Nat.lt_of_lt_of_le hbl hb'.size))
  have HA := Lib.hid (firstAt_any (belowC b) zm 0)
  clear hm hb
  generalize firstAt (belowC b) 0 zm = v at *
  go_enter Tryz.func29, Tryz.ntmps29
  go_wp2_with fail
  refine HI.out.mono ?_
  rintro e w1 ⟨rfl, hb1⟩
  have HB := Lib.hid hb1
  clear hb1
  go_wp2_with fail
  go_ret
  exact ⟨by rw [← HA.out]; rfl, HB.out⟩
set_option maxRecDepth 100000 in
set_option maxHeartbeats 2000000 in
theorem order1_any (w : World) (b : Md) (pb : Nat) (am : Option Addr) (nm cm : Nat) (zm : List MZ) (hp : w.cell? ⟨pb, 0, none⟩ = some (.slice am nm cm)) (hpl : pb < w.heap.size) (hm : MadeAt w am nm cm zm) (hnm : nm ≤ 100000) :
    Calls Tryz.prog 28 #[.agg (mdCells b).toArray, .pointer (some ⟨pb, 0, none⟩)] w fun e w' => e = .returned (.bool (orderC zm b)) ∧ Below w.heap.size w w' := by
  have hbn := (Below.refl w.heap.size w).alloc (Nat.le_refl _) (.cells (mdCells b).toArray 45)
  have HC := Lib.hid (containsM_any (w.alloc (.cells (mdCells b).toArray 45)) b w.heap.size (md_box w b) (by simp) am nm cm zm (hm.on hbn) hnm)
  have hc := (hbn.cell (p := ⟨pb, 0, none⟩) hpl).trans hp
  obtain ⟨_, _, d2, _⟩ := md_box w b
  simp only [Nat.zero_add] at d2
  have HB := Lib.hid hbn
  clear hbn hm hp
  go_enter Tryz.func28, Tryz.ntmps28
  go_upto_region 1 with fail
  generalize w.alloc (.cells (mdCells b).toArray 45) = w1 at *
  by_cases h1 : b.kind = 0
  · have HE := Lib.hid (show orderC zm b = zm.any fun q => belowC b q.1 by unfold orderC; rw [decide_eq_true h1]; rfl)
    rw [h1] at d2
    clear h1
    generalize (zm.any fun q => belowC b q.1) = v at *
    go_wp2_with fail
    refine HC.out.mono ?_
    rintro e w2 ⟨rfl, hb2⟩
    have HB2 := Lib.hid (HB.out.trans (hb2.mono HB.out.size))
    clear hb2
    go_wp2_with fail
    go_ret
    exact ⟨by rw [HE.out]; try rfl, HB2.out⟩
  · have HE := Lib.hid (show orderC zm b = false by unfold orderC; rw [decide_eq_false h1]; rfl)
    have e1 : (b.kind == 0) = false := beq_eq_false_iff_ne.2 h1
    have H1 := Lib.hid h1
    clear h1
    go_wp2_with fail
    go_ret
    exact ⟨by rw [HE.out]; first | rfl | (simp [H1.out]), HB.out⟩
set_option maxRecDepth 100000 in
set_option maxHeartbeats 4000000 in
theorem index1_any (w : World) (f : Md → Bool) (pb : Nat) (am : Option Addr) (nm cm : Nat) (zm : List MZ) (hm : MadeAt w am nm cm zm) (hnm : nm ≤ 100000)
    (hf : ∀ w' q, q ∈ zm → Below w.heap.size w w' → Calls Tryz.prog 28 #[.agg (mdCells q.1).toArray, .pointer (some ⟨pb, 0, none⟩)] w' fun e w'' => e = .returned (.bool (f q.1)) ∧ Below w'.heap.size w' w'') :
    Calls Tryz.prog 21 #[.slice am nm cm, .func (.func 28) #[] #[.pointer (some ⟨pb, 0, none⟩)]] w fun e w' => e = .returned (.int .i64 (firstAt f 0 zm)) ∧ Below w.heap.size w w' := by
  have HMM := Lib.hid hm
  have HF := Lib.hid hf
  clear hm hf
  go_enter Tryz.func21, Tryz.ntmps21
  go_wp2_with fail
  go_loopw [4, 5, 8] (fun _ _ s8 wr => ∃ i : Nat, i ≤ nm ∧ s8 = .int .i64 i ∧ firstAt f 0 zm = firstAt f i (zm.drop i) ∧ Below w.heap.size w wr) (fun _ _ s8 _ => nm - (intOf s8).toNat)
  case atStart => exact ⟨0, by omega, rfl, rfl, Below.refl _ _⟩
  case round =>
    obtain ⟨i, hi, rfl, hfi, hb⟩ := hrel
    by_cases hlt : i < nm
    · have hil : (i : Int) < (nm : Int) := by omega
      obtain ⟨q, g, o, hq, hqz, rfl, hg, hc⟩ := (HMM.out.on hb).row hlt
      have HN := Lib.hid (show firstAt f 0 zm = if f q.1 then (i : Int) else firstAt f (i + 1) (zm.drop (i + 1)) by rw [hfi, firstAt_drop _ _ _ _ hq])
      have HC := Lib.hid hc
      have HS := Lib.hid (HF.out wr q hqz hb)
      have HB := Lib.hid hb
      clear hfi hq hqz hc hb
      go_wp2_with ((with_reducible refine wpList_loadM rfl _ rfl _ _ _ HC.out ?_ ?_); rfl)
      refine HS.out.mono ?_
      rintro e w2 ⟨rfl, hb2⟩
      have HB2 := Lib.hid (HB.out.trans (hb2.mono HB.out.size))
      clear hb2
      cases hak : f q.1 with
      | true =>
        have HR := Lib.hid (show firstAt f 0 zm = (i : Int) by rw [HN.out, hak]; rfl)
        clear hak
        go_wp2_with fail
        go_ret
        exact ⟨by rw [HR.out]; try rfl, HB2.out⟩
      | false =>
        have HR := Lib.hid (show firstAt f 0 zm = firstAt f (i + 1) (zm.drop (i + 1)) by rw [HN.out, hak]; rfl)
        clear hak
        go_wp2_with fail
        go_roundw
        case rel => exact ⟨i + 1, by omega, by go_num, HR.out, HB2.out⟩
        case measure => simp [intOf]; omega
    · have hge : ¬ (i : Int) < (nm : Int) := by omega
      have HR := Lib.hid (show firstAt f 0 zm = -1 by
        have hin : i = zm.length := by rw [HMM.out.len]; omega
        rw [hfi, hin, List.drop_eq_nil_of_le (Nat.le_refl _)]; rfl)
      have HB := Lib.hid hb
      clear hfi hb
      go_wp2_with fail
      go_ret
      exact ⟨by rw [HR.out]; try rfl, HB.out⟩
set_option maxRecDepth 100000 in
set_option maxHeartbeats 2000000 in
theorem order_any (w : World) (am : Option Addr) (nm cm : Nat) (zm : List MZ) (hm : MadeAt w am nm cm zm) (hnm : nm ≤ 100000) :
    Calls Tryz.prog 11 #[.slice am nm cm] w fun e w' => e = .returned (.int .i64 (orderL zm)) ∧ Below w.heap.size w w' := by
  have hbn := (Below.refl w.heap.size w).alloc (Nat.le_refl _) (.cells #[.slice am nm cm] 23)
  have hB : Blk (w.alloc (.cells #[.slice am nm cm] 23)) w.heap.size [.slice am nm cm] 23 := Blk.new w [.slice am nm cm] _
  have hc : (w.alloc (.cells #[.slice am nm cm] 23)).cell? ⟨w.heap.size, 0, none⟩ = some (.slice am nm cm) := by rw [hB.cell]; rfl
  have HI := Lib.hid (index1_any (w.alloc (.cells #[.slice am nm cm] 23)) (orderC zm) w.heap.size am nm cm zm (hm.on hbn) hnm fun w' q _ hb' => order1_any w' q.1 w.heap.size am nm cm zm ((hb'.cell (p := ⟨w.heap.size, 0, none⟩) (by simp)).trans hc) (Nat.lt_of_lt_of_le (by simp) hb'.size) ((hm.on hbn).on hb') hnm)
  have HB := Lib.hid hbn
  clear hbn hB hm
  go_enter Tryz.func11, Tryz.ntmps11
  go_wp2_with fail
  refine HI.out.mono ?_
  rintro e w2 ⟨rfl, hb2⟩
  have HB2 := Lib.hid (HB.out.trans (hb2.mono HB.out.size))
  clear hb2
  go_wp2_with fail
  go_ret
  exact ⟨rfl, HB2.out⟩
end Go.Proofs.YtffianjbljgnaaaGreat

/-! ### RfOrd -/
namespace Go.Proofs.YtffianjbljgnaaaGreat
set_option linter.unusedVariables false
set_option linter.unusedSimpArgs false
open Go.RowKit Go.Maps

set_option maxRecDepth 100000 in
set_option maxHeartbeats 16000000 in
theorem orderR_any (w : World) (am : Option Addr) (nm cm : Nat) (zm : List MZ) (hm : MadeAt w am nm cm zm) (hnm : nm ≤ 100000) :
    Calls Tryz.prog 12 #[.slice am nm cm] w fun e w' => e = .returned (.int .i64 (orderL zm)) ∧ Below w.heap.size w w' := by
  have HMM := Lib.hid hm
  obtain ⟨ov, hov⟩ : ∃ v, orderL zm = v := ⟨_, rfl⟩
  have HOv := Lib.hid (show firstAt (orderC zm) 0 zm = ov from hov)
  rw [hov]
  clear hm hov
  go_enter Tryz.func12, Tryz.ntmps12
  go_wp2_with fail
  go_loopw [2, 3, 4, 5] (fun _ s3 _ _ wr => ∃ i : Nat, i ≤ nm ∧ s3 = .int .i64 i ∧ ov = firstAt (orderC zm) i (zm.drop i) ∧ Below w.heap.size w wr) (fun _ s3 _ _ _ => nm - (intOf s3).toNat)
  case atStart => exact ⟨0, by omega, rfl, HOv.out.symm, Below.refl _ _⟩
  case round =>
    clear HOv
    obtain ⟨i, hi, rfl, hfi, hb⟩ := hrel
    have HB := Lib.hid hb
    by_cases hlt : i < nm
    · have hil : (i : Int) < (nm : Int) := by omega
      obtain ⟨q, g, o, hq, hqz, rfl, hg, hc⟩ := (HMM.out.on hb).row hlt
      have HFi := Lib.hid (hfi.trans (firstAt_drop (orderC zm) zm i q hq))
      have HC := Lib.hid hc
      obtain ⟨b0, _, b2, _, _, _, _, _, _, _, _, _, _, _, b14, _⟩ := hc
      obtain ⟨bt, hbt⟩ : ∃ x, q.1.ts = x := ⟨_, rfl⟩
      obtain ⟨bk, hbk⟩ : ∃ x, q.1.kind = x := ⟨_, rfl⟩
      obtain ⟨bf, hbf⟩ : ∃ x, q.1.frm = x := ⟨_, rfl⟩
      rw [hbt] at b0
      rw [hbk] at b2
      rw [hbf] at b14
      obtain ⟨ob, hob⟩ : ∃ x, orderC zm q.1 = x := ⟨_, rfl⟩
      rw [hob] at HFi
      have HOb := Lib.hid (show ob = (decide (bk = 0) && zm.any fun p => belowC q.1 p.1) by rw [← hob, ← hbk]; rfl)
      have HBt := Lib.hid hbt
      have HBf := Lib.hid hbf
      have HRi := Lib.hid (show ∀ w', Below wr.heap.size wr w' → (w'.cell? ⟨g, o + i * 16, none⟩ = some (.int .u64 (bt : Nat)) ∧ w'.cell? ⟨g, o + i * 16 + 14, none⟩ = some (.int .i64 bf)) from fun w' hb => ⟨by rw [hb.cell (p := ⟨g, o + i * 16, none⟩) hg]; exact b0, by rw [hb.cell (p := ⟨g, o + i * 16 + 14, none⟩) hg]; exact b14⟩)
      clear hfi hb hq hqz b0 b14 hbt hbk hbf hob HC
      by_cases hk : bk = 0
      · have e1 : (bk == 0) = true := by simp [hk]
        have e2 : (bk != 0) = false := by simp [hk]
        have HOc := Lib.hid (show ob = zm.any fun p => belowC q.1 p.1 by rw [HOb.out, decide_eq_true hk, Bool.true_and])
        clear hk HOb
        go_upto_region 5 with fail
        clear b2
        go_wp2_with fail
        generalize wr = wo at *
        go_loopw [2, 4, 5] (fun _ s4 _ wr => ∃ k : Nat, k ≤ nm ∧ s4 = .int .i64 k ∧ (zm.take k).any (fun p => belowC q.1 p.1) = false ∧ Below wo.heap.size wo wr) (fun _ s4 _ _ => nm - (intOf s4).toNat)
        case atStart => exact ⟨0, by omega, rfl, rfl, Below.refl _ _⟩
        case round =>
          obtain ⟨k, hk, rfl, hno, hbk⟩ := hrel
          have HBk := Lib.hid hbk
          have HTk := Lib.hid (HB.out.trans (hbk.mono HB.out.size))
          by_cases hkn : k < nm
          · have hkl : (k : Int) < (nm : Int) := by omega
            obtain ⟨x, g2, o2, hx, hxz, ea, hg2, hc2⟩ := (HMM.out.on HTk.out).row hkn
            simp only [Option.some.injEq, Addr.mk.injEq, and_true] at ea
            obtain ⟨rfl, rfl⟩ := ea
            have HNo := Lib.hid (show (zm.take (k + 1)).any (fun p => belowC q.1 p.1) = belowC q.1 x.1 by rw [any_nextR _ zm k x hx, hno, Bool.false_or])
            have HMem := Lib.hid hxz
            have HC := Lib.hid hc2
            have HBox := Lib.hid (md_box wr x.1)
            have hbn := (Below.refl wr.heap.size wr).alloc (Nat.le_refl _) (.cells (mdCells x.1).toArray 45)
            have HBn := Lib.hid hbn
            have HXl0 := Lib.hid (show wr.heap.size < (wr.alloc (.cells (mdCells x.1).toArray 45)).heap.size by rw [World.size_alloc]; omega)
            clear hno hbk hx hxz hc2 hbn
            go_upto_region 9 with (first | ((with_reducible refine wpList_loadM rfl _ rfl _ _ _ HC.out ?_ ?_); rfl) | ((with_reducible refine wpList_storeM rfl _ _ rfl _ x.1 ?_ ?_ ?_); rfl; rfl))
            try go_frame
            obtain ⟨xb, hxb⟩ : ∃ y, wr.heap.size = y := ⟨_, rfl⟩
            rw [hxb] at HBox HXl0
            simp only [hxb]
            generalize wr.alloc (.cells (mdCells x.1).toArray 45) = w2 at *
            have HXl := Lib.hid (show xb < w2.heap.size from HXl0.out)
            obtain ⟨d0, _, d2, _, _, _, _, d7, _, _, d10, _, _, _, _, d15⟩ := (show MdCellsAt w2 xb 0 x.1 from HBox.out)
            obtain ⟨xt, hxt⟩ : ∃ y, x.1.ts = y := ⟨_, rfl⟩
            obtain ⟨xk, hxk⟩ : ∃ y, x.1.kind = y := ⟨_, rfl⟩
            obtain ⟨xd, hxd⟩ : ∃ y, x.1.dn = y := ⟨_, rfl⟩
            obtain ⟨xe, hxe⟩ : ∃ y, x.1.err = y := ⟨_, rfl⟩
            obtain ⟨xl, hxl⟩ : ∃ y, x.1.til = y := ⟨_, rfl⟩
            rw [hxt] at d0
            rw [hxk] at d2
            rw [hxd] at d7
            rw [hxe] at d10
            rw [hxl] at d15
            have HF := Lib.hid (show ∀ w', Below w2.heap.size w2 w' → ((w'.cell? ⟨xb, 0, none⟩ = some (.int .u64 (xt : Nat)) ∧ w'.cell? ⟨xb, 2, none⟩ = some (.int .i64 xk) ∧ w'.cell? ⟨xb, 7, none⟩ = some (.bool xd) ∧ w'.cell? ⟨xb, 10, none⟩ = some (.int .i64 xe) ∧ w'.cell? ⟨xb, 15, none⟩ = some (.int .i64 xl)) ∧ (w'.cell? ⟨g, o + i * 16, none⟩ = some (.int .u64 (bt : Nat)) ∧ w'.cell? ⟨g, o + i * 16 + 14, none⟩ = some (.int .i64 bf))) from fun w' hb =>
              ⟨⟨by rw [hb.cell (p := ⟨xb, 0, none⟩) HXl.out]; exact d0, by rw [hb.cell (p := ⟨xb, 2, none⟩) HXl.out]; exact d2, by rw [hb.cell (p := ⟨xb, 7, none⟩) HXl.out]; exact d7, by rw [hb.cell (p := ⟨xb, 10, none⟩) HXl.out]; exact d10, by rw [hb.cell (p := ⟨xb, 15, none⟩) HXl.out]; exact d15⟩, HRi.out w' (HBk.out.trans ((HBn.out.trans (hb.mono HBn.out.size)).mono HBk.out.size))⟩)
            obtain ⟨bb, hbb⟩ : ∃ y, belowC q.1 x.1 = y := ⟨_, rfl⟩
            have HBb := Lib.hid (show bb = ((decide (xk = 5) && (xd && decide (xe = 0))) && (decide (xl ≤ bf) && decide (bt ≤ xt))) by
              rw [← hbb]
              unfold belowC ackM
              rw [hxk, hxd, hxe, hxl, hxt, HBf.out, HBt.out])
            rw [hbb] at HNo
            have HBb0 := Lib.hid hbb
            have HB2 := Lib.hid (HBk.out.trans (HBn.out.mono HBk.out.size))
            have HT2 := Lib.hid (HTk.out.trans (HBn.out.mono HTk.out.size))
            clear d0 d2 d7 d10 d15 hbb hxt hxk hxd hxe hxl HBox HC hxb HXl0
            by_cases h5 : xk = 5
            · have e5 : (xk == 5) = true := by simp [h5]
              cases xd with
              | true =>
                by_cases he : xe = 0
                · have ee : (xe == 0) = true := by simp [he]
                  by_cases hl : xl ≤ bf
                  · by_cases ht : bt ≤ xt
                    · have et : (xt : Int) ≥ (bt : Int) := by omega
                      have HX := Lib.hid (show bb = true by rw [HBb.out]; simp [h5, he, hl, ht])
                      have HR := Lib.hid (show ov = (i : Int) by
                        have ho : ob = true := by
                          rw [HOc.out]
                          exact List.any_eq_true.2 ⟨x, HMem.out, by rw [HBb0.out, HX.out]⟩
                        rw [HFi.out, ho, if_pos rfl])
                      refine wp_region_settle (Below w2.heap.size w2) (by kernel_rfl) (by kernel_rfl) (by kernel_rfl) (below_drew (Below.refl _ _)) ?_
                      repeat (first
                        | (refine settled_not ?_ ?_
                           · rfl
                           simp only [Act.put, List.setIfInBounds_toArray, List.set_cons_zero, List.set_cons_succ])
                        | (refine settled_val (v := ?_) ?_ (fun w' hS => ?_) ?_
                           rotate_left
                           · rfl
                           · obtain ⟨⟨k0, k1, k2, k3, k4⟩, k5, k6⟩ := HF.out w' hS
                             go_simp
                             with_reducible rfl
                           simp only [Act.put, List.setIfInBounds_toArray, List.set_cons_zero, List.set_cons_succ]))
                      refine settled_nil (fun w8 hS => ?_)
                      have HE := Lib.hid (HT2.out.trans (hS.mono HT2.out.size))
                      clear hS
                      go_wp2_with fail
                      go_ret
                      rw [HR.out]
                      exact ⟨by try rfl, HE.out⟩
                    · have et : ¬ (xt : Int) ≥ (bt : Int) := by omega
                      have HX := Lib.hid (show bb = false by rw [HBb.out]; simp [ht])
                      refine wp_region_settle (Below w2.heap.size w2) (by kernel_rfl) (by kernel_rfl) (by kernel_rfl) (below_drew (Below.refl _ _)) ?_
                      repeat (first
                        | (refine settled_not ?_ ?_
                           · rfl
                           simp only [Act.put, List.setIfInBounds_toArray, List.set_cons_zero, List.set_cons_succ])
                        | (refine settled_val (v := ?_) ?_ (fun w' hS => ?_) ?_
                           rotate_left
                           · rfl
                           · obtain ⟨⟨k0, k1, k2, k3, k4⟩, k5, k6⟩ := HF.out w' hS
                             go_simp
                             with_reducible rfl
                           simp only [Act.put, List.setIfInBounds_toArray, List.set_cons_zero, List.set_cons_succ]))
                      refine settled_nil (fun w8 hS => ?_)
                      have HE := Lib.hid (HB2.out.trans (hS.mono HB2.out.size))
                      clear hS
                      go_wp2_with fail
                      go_roundw
                      case rel => exact ⟨k + 1, by omega, by go_num, by rw [HNo.out, HX.out], HE.out⟩
                      case measure => simp [intOf]; omega
                  · skip
                    have HX := Lib.hid (show bb = false by rw [HBb.out]; simp [hl])
                    refine wp_region_settle (Below w2.heap.size w2) (by kernel_rfl) (by kernel_rfl) (by kernel_rfl) (below_drew (Below.refl _ _)) ?_
                    repeat (first
                      | (refine settled_not ?_ ?_
                         · rfl
                         simp only [Act.put, List.setIfInBounds_toArray, List.set_cons_zero, List.set_cons_succ])
                      | (refine settled_val (v := ?_) ?_ (fun w' hS => ?_) ?_
                         rotate_left
                         · rfl
                         · obtain ⟨⟨k0, k1, k2, k3, k4⟩, k5, k6⟩ := HF.out w' hS
                           go_simp
                           with_reducible rfl
                         simp only [Act.put, List.setIfInBounds_toArray, List.set_cons_zero, List.set_cons_succ]))
                    refine settled_nil (fun w8 hS => ?_)
                    have HE := Lib.hid (HB2.out.trans (hS.mono HB2.out.size))
                    clear hS
                    go_wp2_with fail
                    go_roundw
                    case rel => exact ⟨k + 1, by omega, by go_num, by rw [HNo.out, HX.out], HE.out⟩
                    case measure => simp [intOf]; omega
                · have ee : (xe == 0) = false := by simp [he]
                  have HX := Lib.hid (show bb = false by rw [HBb.out]; simp [he])
                  refine wp_region_settle (Below w2.heap.size w2) (by kernel_rfl) (by kernel_rfl) (by kernel_rfl) (below_drew (Below.refl _ _)) ?_
                  repeat (first
                    | (refine settled_not ?_ ?_
                       · rfl
                       simp only [Act.put, List.setIfInBounds_toArray, List.set_cons_zero, List.set_cons_succ])
                    | (refine settled_val (v := ?_) ?_ (fun w' hS => ?_) ?_
                       rotate_left
                       · rfl
                       · obtain ⟨⟨k0, k1, k2, k3, k4⟩, k5, k6⟩ := HF.out w' hS
                         go_simp
                         with_reducible rfl
                       simp only [Act.put, List.setIfInBounds_toArray, List.set_cons_zero, List.set_cons_succ]))
                  refine settled_nil (fun w8 hS => ?_)
                  have HE := Lib.hid (HB2.out.trans (hS.mono HB2.out.size))
                  clear hS
                  go_wp2_with fail
                  go_roundw
                  case rel => exact ⟨k + 1, by omega, by go_num, by rw [HNo.out, HX.out], HE.out⟩
                  case measure => simp [intOf]; omega
              | false =>
                have HX := Lib.hid (show bb = false by rw [HBb.out]; simp)
                refine wp_region_settle (Below w2.heap.size w2) (by kernel_rfl) (by kernel_rfl) (by kernel_rfl) (below_drew (Below.refl _ _)) ?_
                repeat (first
                  | (refine settled_not ?_ ?_
                     · rfl
                     simp only [Act.put, List.setIfInBounds_toArray, List.set_cons_zero, List.set_cons_succ])
                  | (refine settled_val (v := ?_) ?_ (fun w' hS => ?_) ?_
                     rotate_left
                     · rfl
                     · obtain ⟨⟨k0, k1, k2, k3, k4⟩, k5, k6⟩ := HF.out w' hS
                       go_simp
                       with_reducible rfl
                     simp only [Act.put, List.setIfInBounds_toArray, List.set_cons_zero, List.set_cons_succ]))
                refine settled_nil (fun w8 hS => ?_)
                have HE := Lib.hid (HB2.out.trans (hS.mono HB2.out.size))
                clear hS
                go_wp2_with fail
                go_roundw
                case rel => exact ⟨k + 1, by omega, by go_num, by rw [HNo.out, HX.out], HE.out⟩
                case measure => simp [intOf]; omega
            · have e5 : (xk == 5) = false := by simp [h5]
              have HX := Lib.hid (show bb = false by rw [HBb.out]; simp [h5])
              refine wp_region_settle (Below w2.heap.size w2) (by kernel_rfl) (by kernel_rfl) (by kernel_rfl) (below_drew (Below.refl _ _)) ?_
              repeat (first
                | (refine settled_not ?_ ?_
                   · rfl
                   simp only [Act.put, List.setIfInBounds_toArray, List.set_cons_zero, List.set_cons_succ])
                | (refine settled_val (v := ?_) ?_ (fun w' hS => ?_) ?_
                   rotate_left
                   · rfl
                   · obtain ⟨⟨k0, k1, k2, k3, k4⟩, k5, k6⟩ := HF.out w' hS
                     go_simp
                     with_reducible rfl
                   simp only [Act.put, List.setIfInBounds_toArray, List.set_cons_zero, List.set_cons_succ]))
              refine settled_nil (fun w8 hS => ?_)
              have HE := Lib.hid (HB2.out.trans (hS.mono HB2.out.size))
              clear hS
              go_wp2_with fail
              go_roundw
              case rel => exact ⟨k + 1, by omega, by go_num, by rw [HNo.out, HX.out], HE.out⟩
              case measure => simp [intOf]; omega
          · have hkl : ¬ (k : Int) < (nm : Int) := by omega
            rw [List.take_of_length_le (by have := HMM.out.len; omega)] at hno
            have HX := Lib.hid (show ov = firstAt (orderC zm) (i + 1) (zm.drop (i + 1)) by rw [HFi.out, HOc.out, hno, if_neg (by decide)])
            clear hno hbk
            go_wp2_with fail
            go_roundw
            case rel => exact ⟨i + 1, by omega, by go_num, HX.out, HTk.out⟩
            case measure => simp [intOf]; omega
      · have e1 : (bk == 0) = false := by simp [hk]
        have e2 : (bk != 0) = true := by simp [hk]
        have HX := Lib.hid (show ov = firstAt (orderC zm) (i + 1) (zm.drop (i + 1)) by rw [HFi.out, HOb.out, decide_eq_false hk, Bool.false_and, if_neg (by decide)])
        clear hk HOb
        go_wp2_with fail
        go_roundw
        case rel => exact ⟨i + 1, by omega, by go_num, HX.out, HB.out⟩
        case measure => simp [intOf]; omega
    · have hil : ¬ (i : Int) < (nm : Int) := by omega
      have HX := Lib.hid (show ov = -1 by rw [hfi, List.drop_eq_nil_of_le (by have := HMM.out.len; omega)]; rfl)
      clear hfi hb
      go_wp2_with fail
      go_ret
      rw [HX.out]
      exact ⟨by try rfl, HB.out⟩
end Go.Proofs.YtffianjbljgnaaaGreat

/-! ### Walk27A -/
namespace Go.Proofs.YtffianjbljgnaaaGreat
set_option linter.unusedVariables false
set_option linter.unusedSimpArgs false
open Go.RowKit Go.Maps

set_option maxRecDepth 100000 in
set_option maxHeartbeats 16000000 in
theorem asks27_law (w : World) (a : Option Addr) (n c : Nat) (z : List EZ) (h : EntsAt w a n c z) (am : Option Addr) (nm cm : Nat) (zm : List MZ) (hm : MadeAt w am nm cm zm) (hk : ∀ q ∈ zm, isK q) :
    Calls Tryz.prog 3 #[.slice a n c, .slice am nm cm] w fun e w' => e = .returned (.bool true) ∧ Below w.heap.size w w' := by
  have HWk := Lib.hid (fun w' => works_any w')
  have HEn := Lib.hid (entries_any w a n c z h)
  have HMd := Lib.hid (fun w' (hb : Below w.heap.size w w') => made27_any w' am nm cm zm (hm.on hb) hk)
  clear hm hk h
  go_enter Tryz.func3, Tryz.ntmps3
  go_wp2_with fail
  refine HEn.out.mono ?_
  rintro e w1 ⟨a1, c1, z1, rfl, hE, hzl, _, _, hb1⟩
  obtain ⟨n1, hn1⟩ : ∃ x, (cutEntries (z.map (·.2))).length = x := ⟨_, rfl⟩
  have hn30 : n1 ≤ 30 := by rw [← hn1]; unfold cutEntries; rw [List.length_map, List.length_take]; omega
  have hops : ∀ q ∈ z1, q.2.ops.length ≤ 8 := fun q hq => by
    have hm : q.2 ∈ cutEntries (z.map (·.2)) := by rw [← hzl]; exact List.mem_map.2 ⟨q, hq, rfl⟩
    unfold cutEntries at hm
    obtain ⟨x, _, hx⟩ := List.mem_map.1 hm
    rw [← hx]
    show (cutRecs 8 x.ops).length ≤ 8
    unfold cutRecs
    rw [List.length_map, List.length_take]
    omega
  rw [hn1] at hE ⊢
  have HE1 := Lib.hid hE
  have HOps := Lib.hid hops
  have HB1 := Lib.hid hb1
  have HMd1 := Lib.hid (HMd.out w1 hb1)
  clear hE hzl hb1 hn1 hops HEn HMd
  go_wp2_with fail
  refine HMd1.out.mono ?_
  rintro e w2 ⟨am2, nm2, cm2, Z, rfl, hnm, hM, hkZ, hb2⟩
  have hE := HE1.out.on hb2
  have hops := HOps.out
  have hMk : MadeOk Z := ⟨fun q hq => (hM.each q hq).rows.max, fun q hq => hkZ q hq⟩
  have hZl : Z.length ≤ 60 := by rw [hM.len]; exact hnm
  have hcl : (commL (z1.map (·.1.ts)) Z).length ≤ 60 := by have := commL_le (z1.map (·.1.ts)) Z; omega
  have HC1 := Lib.hid (comm_any w2 am2 nm2 cm2 Z hM (by omega) a1 n1 c1 z1 hE (by omega) (by unfold BoundU; omega))
  have HC2 := Lib.hid (fun w' (hb : Below w2.heap.size w2 w') => commR_any w' am2 nm2 cm2 Z (hM.on hb) (by omega) a1 n1 c1 z1 (hE.on hb) (by omega))
  obtain ⟨sv, hsv⟩ : ∃ v, serialL Z z1 [] (commL (z1.map (·.1.ts)) Z) = v := ⟨_, rfl⟩
  obtain ⟨ov, hov⟩ : ∃ v, orderL Z = v := ⟨_, rfl⟩
  have HS1 := Lib.hid (show ∀ w', Below w2.heap.size w2 w' → Calls Tryz.prog 9 #[.slice a1 n1 c1, .slice am2 nm2 cm2] w' fun e w'' => e = .returned (.int .i64 sv) ∧ Below w'.heap.size w' w'' from fun w' hb => by
    have := serial_any w' a1 n1 c1 z1 (hE.on hb) (by omega) (fun q hq => by have := hops q hq; omega) am2 nm2 cm2 Z (hM.on hb) (by omega) hMk
      (by unfold BoundU; omega) (fun ts => by have := indsP_le ts Z Z.length; unfold BoundC; exact Nat.lt_of_le_of_lt this (by omega))
    rw [hsv] at this
    exact this)
  have HS2 := Lib.hid (show ∀ w', Below w2.heap.size w2 w' → Calls Tryz.prog 10 #[.slice a1 n1 c1, .slice am2 nm2 cm2] w' fun e w'' => e = .returned (.int .i64 sv) ∧ Below w'.heap.size w' w'' from fun w' hb => by
    have := serialR_any w' a1 n1 c1 z1 (hE.on hb) (by omega) (fun q hq => by have := hops q hq; omega) am2 nm2 cm2 Z (hM.on hb) (by omega) hMk
    rw [hsv] at this
    exact this)
  have HO1 := Lib.hid (show ∀ w', Below w2.heap.size w2 w' → Calls Tryz.prog 11 #[.slice am2 nm2 cm2] w' fun e w'' => e = .returned (.int .i64 ov) ∧ Below w'.heap.size w' w'' from fun w' hb => by
    have := order_any w' am2 nm2 cm2 Z (hM.on hb) (by omega)
    rw [hov] at this
    exact this)
  have HO2 := Lib.hid (show ∀ w', Below w2.heap.size w2 w' → Calls Tryz.prog 12 #[.slice am2 nm2 cm2] w' fun e w'' => e = .returned (.int .i64 ov) ∧ Below w'.heap.size w' w'' from fun w' hb => by
    have := orderR_any w' am2 nm2 cm2 Z (hM.on hb) (by omega)
    rw [hov] at this
    exact this)
  have HTop := Lib.hid (HB1.out.trans (hb2.mono HB1.out.size))
  have es : (sv == sv) = true := by simp
  have eo : (ov == ov) = true := by simp
  obtain ⟨CL, hCL⟩ : ∃ X, commL (z1.map (·.1.ts)) Z = X := ⟨_, rfl⟩
  rw [hCL] at HC1 HC2 hcl
  obtain ⟨nC, hnC⟩ : ∃ x, CL.length = x := ⟨_, rfl⟩
  have HNC := Lib.hid hnC
  clear hE hops hM hkZ hMk hZl hsv hov hb2 hCL HMd1 HE1 HOps HB1
  go_wp2_with fail
  refine HC1.out.mono ?_
  rintro e w3 ⟨aL, cL, rfl, hrowL, _, hb3⟩
  have HR3 := Lib.hid hb3
  have HRow := Lib.hid hrowL
  have HC2b := Lib.hid (HC2.out w3 hb3)
  rw [hnC] at HRow ⊢
  clear hrowL hb3 HC1 HC2
  go_wp2_with fail
  refine HC2b.out.mono ?_
  rintro e w4 ⟨aR, cR, rfl, hrowR, _, hb4⟩
  have HR4 := Lib.hid (HR3.out.trans (hb4.mono HR3.out.size))
  rw [hnC] at hrowR ⊢
  have HNu := Lib.hid (show Calls Tryz.prog 6 #[.slice aL nC cL, .slice aR nC cR] w4 fun e w' => e = .returned (.bool true) ∧ Below w4.heap.size w4 w' from by
    have := numbers_any w4 aL aR nC cL nC cR CL CL (HRow.out.on hb4) hrowR HNC.out.symm HNC.out.symm (by omega)
    rw [decide_eq_true (rfl : CL = CL)] at this
    exact this)
  clear hrowR hb4 HC2b hnC
  go_wp2_with fail
  refine HNu.out.mono ?_
  rintro e w5 ⟨rfl, hb⟩
  have HR5 := Lib.hid (HR4.out.trans (hb.mono HR4.out.size))
  clear hb HNu
  have HC := Lib.hid (HS1.out w5 HR5.out)
  go_wp2_with fail
  refine HC.out.mono ?_
  rintro e w6 ⟨rfl, hb⟩
  have HR6 := Lib.hid (HR5.out.trans (hb.mono HR5.out.size))
  clear hb HC
  have HC := Lib.hid (HS2.out w6 HR6.out)
  go_wp2_with fail
  refine HC.out.mono ?_
  rintro e w7 ⟨rfl, hb⟩
  have HR7 := Lib.hid (HR6.out.trans (hb.mono HR6.out.size))
  clear hb HC
  have HC := Lib.hid (HO1.out w7 HR7.out)
  go_wp2_with fail
  refine HC.out.mono ?_
  rintro e w8 ⟨rfl, hb⟩
  have HR8 := Lib.hid (HR7.out.trans (hb.mono HR7.out.size))
  clear hb HC
  have HC := Lib.hid (HO2.out w8 HR8.out)
  go_wp2_with fail
  refine HC.out.mono ?_
  rintro e w9 ⟨rfl, hb⟩
  have HR9 := Lib.hid (HR8.out.trans (hb.mono HR8.out.size))
  clear hb HC
  have HC := Lib.hid (HWk.out w9)
  go_wp2_with fail
  refine HC.out.mono ?_
  rintro e w10 ⟨rfl, hb⟩
  have HE := Lib.hid (HTop.out.trans ((HR9.out.trans (hb.mono HR9.out.size)).mono HTop.out.size))
  clear hb HC
  go_wp2_with fail
  go_ret
  exact ⟨by try rfl, HE.out⟩
end Go.Proofs.YtffianjbljgnaaaGreat
