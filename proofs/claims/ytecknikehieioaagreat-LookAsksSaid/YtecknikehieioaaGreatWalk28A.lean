/-
  Texts folded into one: CutR, RfOrd, RfKept, Walk28A.
-/
import Derived.Test.YtecknikehieioaaGreatLookC
import Derived.Test.YtecknikehieioaaGreatRfCalls
import Derived.Test.YtecknikehieioaaGreatLookY
import Derived.Deep.DeepCutAuto
import Derived.Test.YtecknikehieioaaGreatRfSer

/-! ### CutR -/
namespace Go.Proofs.YtecknikehieioaaGreat
set_option linter.unusedVariables false
set_option linter.unusedSimpArgs false
open Go.RowKit Go.Maps

theorem RowsAt.some_of {w : World} {a : Option Addr} {n c k : Nat} {cells : List Value} (h : RowsAt w a n c k cells) (m : Nat) (hm : m ≤ n) (C : List Value) (hl : C.length = m * k) (hC : ∀ (i : Nat) (v : Value), C[i]? = some v → cells[i]? = some v) : RowsAt w a m c k C :=
  ⟨hl, Nat.le_trans hm h.cap, Nat.le_trans hm h.max, fun h0 => by
    obtain ⟨g, o, e, hg, hc⟩ := h.at_ (by omega)
    exact ⟨g, o, e, hg, fun i v hv => hc i v (hC i v hv)⟩⟩
theorem recs_take {w : World} {a : Option Addr} {n c : Nat} {R : List Rec} (h : RowsAt w a n c 4 (recsCells R)) (hn : n = R.length) (m : Nat) (hm : m ≤ n) : RowsAt w a m c 4 (recsCells (R.take m)) :=
  h.some_of m hm _ (by rw [recs_length, List.length_take]; congr 1; omega) fun i v hv => by
    have e : recsCells R = recsCells (R.take m) ++ recsCells (R.drop m) := by rw [← recs_append, List.take_append_drop]
    rw [e, List.getElem?_append_left (List.getElem?_eq_some_iff.1 hv).1]; exact hv
theorem made_take {w : World} {a : Option Addr} {n c : Nat} {z : List MZ} (h : MadeAt w a n c z) (m : Nat) (hm : m ≤ n) : MadeAt w a m c (z.take m) :=
  ⟨by rw [List.length_take, h.len]; omega, by
    have hl := h.len
    refine h.rows.some_of m hm _ (by rw [mds_length, List.length_map, List.length_take]; congr 1; omega) fun i v hv => ?_
    have e : mdsCells (z.map (·.1)) = mdsCells ((z.take m).map (·.1)) ++ mdsCells ((z.drop m).map (·.1)) := by
      unfold mdsCells
      rw [← List.flatMap_append, ← List.map_append, List.take_append_drop]
    rw [e, List.getElem?_append_left (List.getElem?_eq_some_iff.1 hv).1]; exact hv, fun q hq => h.each q (List.mem_of_mem_take hq)⟩
/-- Entries that a loop has gathered, whose operations lie where they lay. -/
structure CutG (z : List EZ) (w0 w : World) (v : Value) (i : Nat) (zs : List EZ) : Prop where
  len : zs.length = i
  own : w.ownsRow w0.heap.size 43 3 v i (entsCells (zs.map (·.1)))
  each : ∀ q ∈ zs, EntIs w0 q.1 q.2
  src : ∀ q ∈ zs, ∃ q0 ∈ z, ∀ w', EntIs w' q0.1 q0.2 → EntIs w' q.1 q.2
  small : ∀ q ∈ zs, q.2.ops.length ≤ 8
  below : Below w0.heap.size w0 w
def CutEnd (z : List EZ) (am : Option Addr) (nm cm : Nat) (zm : List MZ) (w : World) (e : Ending) (w' : World) : Prop :=
  ∃ (a' : Option Addr) (n' c' : Nat) (z' : List EZ) (m : Nat), e = .returned (.tuple #[.slice am m cm, .slice a' n' c']) ∧ m ≤ 40 ∧ MadeAt w' am m cm (zm.take m) ∧ EntsAt w' a' n' c' z' ∧ n' ≤ 20 ∧ (∀ q ∈ z', q.2.ops.length ≤ 8) ∧ m ≤ nm ∧ (∀ g o, a' = some ⟨g, o, none⟩ → w.heap.size ≤ g) ∧ (∀ q ∈ z', ∃ q0 ∈ z, ∀ w'', EntIs w'' q0.1 q0.2 → EntIs w'' q.1 q.2) ∧ Below w.heap.size w w'
set_option maxRecDepth 100000 in
set_option maxHeartbeats 4000000 in
theorem cut28_any (w : World) (am : Option Addr) (nm cm : Nat) (zm : List MZ) (hm : MadeAt w am nm cm zm) (a : Option Addr) (n c : Nat) (z : List EZ) (h : EntsAt w a n c z) :
    Calls Tryz.prog 8 #[.slice am nm cm, .slice a n c] w (CutEnd z am nm cm zm w) := by
  have HM := Lib.hid hm
  have HH := Lib.hid h
  have hnmax := h.rows.max
  have hmmax := hm.rows.max
  have hmcap := hm.rows.cap
  clear h hm
  go_enter Tryz.func8, Tryz.ntmps8
  go_wp2_with fail
  go_loopw [6, 7, 8] (fun s6 s7 _ wr => ∃ (i : Nat) (zs : List EZ), i ≤ n ∧ i ≤ 20 ∧ s7 = .int .i64 i ∧ CutG z w wr s6 i zs) (fun _ s7 _ _ => n - (intOf s7).toNat)
  case atStart => exact ⟨0, [], by omega, by omega, rfl, ⟨rfl, ⟨rfl, .inl ⟨rfl, rfl⟩⟩, by simp, by simp, by simp, Below.refl _ _⟩⟩
  case round =>
    obtain ⟨i, zs, hi, him, rfl, hG⟩ := hrel
    have HG := Lib.hid hG
    clear hG
    by_cases hlt : i < n ∧ i < 20
    · obtain ⟨hlt, hlm⟩ := hlt
      have hil : (i : Int) < (n : Int) := by omega
      have hml : (i : Int) < 20 := by omega
      obtain ⟨q, g, o, hq, hqz, rfl, hg, c0, c1, c2⟩ := (HH.out.on HG.out.below).row hlt
      have HQ := Lib.hid (HH.out.each q hqz)
      obtain ⟨⟨ts, first, qa, qn, qc⟩, x⟩ := q
      simp only at c0 c1 c2
      obtain ⟨m, hm⟩ : ∃ m, min qn 8 = m := ⟨_, rfl⟩
      have hmin : ∀ w', (Builtin.min_ #[3, 3] 3 #[.int .i64 (qn : Nat), .int .i64 8]).run Tryz.prog w' = .ok (.int .i64 (m : Nat)) w' := by
        intro w'
        rw [run_min_int2, show (if (8 : Int) < qn then (8 : Int) else qn) = m from by split <;> omega]
      have hq9 := HQ.out.rows.cap
      have hqn : qn = x.ops.length := HQ.out.n
      have hmq : m ≤ qn ∧ m ≤ 8 := by omega
      have HIs := Lib.hid (show EntIs w ⟨ts, first, qa, m, qc⟩ ⟨x.ts, x.first, x.ops.take m⟩ from
        ⟨HQ.out.ts, HQ.out.first, by show m = (x.ops.take m).length; rw [List.length_take]; omega, recs_take HQ.out.rows hqn m hmq.1, ⟨HQ.out.ok.ts, HQ.out.ok.first, fun r hr => HQ.out.ok.ops r (List.mem_of_mem_take hr)⟩⟩)
      have HSrc := Lib.hid (show ∃ q0 ∈ z, ∀ w', EntIs w' q0.1 q0.2 → EntIs w' ⟨ts, first, qa, m, qc⟩ ⟨x.ts, x.first, x.ops.take m⟩ from
        ⟨_, hqz, fun w' h => ⟨h.ts, h.first, by show m = (x.ops.take m).length; rw [List.length_take]; omega, recs_take h.rows h.n m hmq.1, ⟨h.ok.ts, h.ok.first, fun r hr => h.ok.ops r (List.mem_of_mem_take hr)⟩⟩⟩)
      have HSm := Lib.hid (show (x.ops.take m).length ≤ 8 from by rw [List.length_take]; omega)
      have hmi : (m : Int) ≤ (qc : Int) := by
        have : m ≤ qc := Nat.le_trans hmq.1 hq9
        omega
      have hm0 : (0 : Int) ≤ (m : Int) := by omega
      have hbn := (Below.refl wr.heap.size wr).alloc (Nat.le_refl _) (.cells #[.int .u64 (ts : Nat), .int .u64 (first : Nat), .slice qa qn qc] 43)
      have hA : Blk (wr.alloc (.cells #[.int .u64 (ts : Nat), .int .u64 (first : Nat), .slice qa qn qc] 43)) wr.heap.size [.int .u64 (ts : Nat), .int .u64 (first : Nat), .slice qa qn qc] 43 := Blk.new wr _ _
      have HBw := Lib.hid HG.out.below
      obtain ⟨E, hE⟩ : ∃ x, wr.heap.size = x := ⟨_, rfl⟩
      have HEq := Lib.hid hE
      clear hq hqz hm hqn hmq hq9 hg
      go_upto_region 6 with fail
      rw [hE] at hA
      try simp only [hE]
      generalize wr.alloc (.cells #[.int .u64 (ts : Nat), .int .u64 (first : Nat), .slice qa qn qc] 43) = w2 at *
      clear hE c0 c1 c2
      have HA := Lib.hid hA
      have HBn := Lib.hid hbn
      have f2 := hA.free 2
      have k2 : w2.cell? ⟨E, 2, none⟩ = some (.slice qa qn qc) := by rw [hA.cell]; rfl
      have hA4 := hA.set 2 (.slice qa m qc)
      have HA4 := Lib.hid hA4
      clear hA hbn hA4
      go_upto_region 7 with fail
      clear f2 k2
      have e0 : (w2.setCell ⟨E, 2, none⟩ (.slice qa m qc)).cell? ⟨E, 0, none⟩ = some (.int .u64 (ts : Nat)) := by rw [HA4.out.cell]; rfl
      have e1 : (w2.setCell ⟨E, 2, none⟩ (.slice qa m qc)).cell? ⟨E, 1, none⟩ = some (.int .u64 (first : Nat)) := by rw [HA4.out.cell]; rfl
      have e2 : (w2.setCell ⟨E, 2, none⟩ (.slice qa m qc)).cell? ⟨E, 2, none⟩ = some (.slice qa m qc) := by rw [HA4.out.cell]; rfl
      have hm4 : Mod [E] w2 (w2.setCell ⟨E, 2, none⟩ (.slice qa m qc)) := (Mod.refl _ _).setCell _ _ (.inl (by simp))
      have hm24 : Mod [E] wr (w2.setCell ⟨E, 2, none⟩ (.slice qa m qc)) := (Mod.of_below (S := [E]) HBn.out).trans hm4
      have hEq := HEq.out
      have hown4 : (w2.setCell ⟨E, 2, none⟩ (.slice qa m qc)).ownsRow w.heap.size 43 3 u6 i (entsCells (zs.map (·.1))) := ownsRow_mod HG.out.own hm24 (fun y hy e => by
        simp only [List.mem_singleton] at hy
        have := (HG.out.own.lt y e).2
        omega)
      have hs4 := hm24.size
      have hs0 := HG.out.below.size
      have hN := Blk.new (w2.setCell ⟨E, 2, none⟩ (.slice qa m qc)) (entCells ⟨ts, first, qa, m, qc⟩) 43
      obtain ⟨v', w', hrun, hown', hmod, _⟩ := own_append 23 43 23 _ 3 40 Tryz.underlying23 info_entry rfl (by decide) (by decide) (hown4.alloc (.cells (entCells ⟨ts, first, qa, m, qc⟩).toArray 43))
        (by omega) (by rw [World.size_alloc]; omega) ⟨(w2.setCell ⟨E, 2, none⟩ (.slice qa m qc)).heap.size, 0, none⟩ 1 1 (entCells ⟨ts, first, qa, m, qc⟩) (by omega) (by omega) rfl
        (fun j u hj => by rw [addr_add', Nat.zero_add, hN.cell]; exact hj) (fun u hu => by simp only [entCells, List.mem_cons, List.not_mem_nil, or_false] at hu; rcases hu with rfl | rfl | rfl <;> rfl)
      have hrun' : (Builtin.append_ #[23, 23] 23 #[u6, .slice (some ⟨(w2.setCell ⟨E, 2, none⟩ (.slice qa m qc)).heap.size, 0, none⟩) 1 1]).run Tryz.prog ((w2.setCell ⟨E, 2, none⟩ (.slice qa m qc)).alloc (.cells #[.int .u64 (ts : Nat), .int .u64 (first : Nat), .slice qa m qc] 43)) = .ok v' w' := hrun
      have HG' := Lib.hid (show CutG z w w' v' (i + 1) (zs ++ [((⟨ts, first, qa, m, qc⟩ : Ent), (⟨x.ts, x.first, x.ops.take m⟩ : Entry))]) from by
        refine ⟨by rw [List.length_append, HG.out.len]; rfl, ?_, fun q hq => ?_, fun q hq => ?_, fun q hq => ?_, ?_⟩
        · rw [List.map_append, ents_append]; exact hown'
        · rcases List.mem_append.1 hq with h | h
          · exact HG.out.each q h
          · simp only [List.mem_singleton] at h; subst h; exact HIs.out
        · rcases List.mem_append.1 hq with h | h
          · exact HG.out.src q h
          · simp only [List.mem_singleton] at h; subst h; exact HSrc.out
        · rcases List.mem_append.1 hq with h | h
          · exact HG.out.small q h
          · simp only [List.mem_singleton] at h; subst h; exact HSm.out
        · have hb4 : Below w.heap.size w (w2.setCell ⟨E, 2, none⟩ (.slice qa m qc)) := HG.out.below.trans (hm24.below (fun y hy => by simp only [List.mem_singleton] at hy; omega) hs0)
          have hb5 := hb4.alloc hb4.size (.cells (entCells ⟨ts, first, qa, m, qc⟩).toArray 43)
          exact hb5.trans (hmod.below (fun y hy => (hown4.lt y (by simpa using hy)).1) hb5.size))
      clear hm4 hm24 hown4 hN hrun hown' hmod hEq hs4 hs0
      generalize (w2.setCell ⟨E, 2, none⟩ (.slice qa m qc)) = w4 at *
      go_wp2_with (at_builtin; (with_reducible refine wpList_append_run rfl _ _ _ rfl _ _ _ _ ?_ ?_ hrun' ?_); rfl; rfl)
      go_roundw
      case rel => exact ⟨i + 1, _, by omega, by omega, by go_num, HG'.out⟩
      case measure => simp [intOf]; omega
    · obtain ⟨m, hm⟩ : ∃ m, min nm 40 = m := ⟨_, rfl⟩
      have hmin : ∀ w', (Builtin.min_ #[3, 3] 3 #[.int .i64 (nm : Nat), .int .i64 40]).run Tryz.prog w' = .ok (.int .i64 (m : Nat)) w' := by
        intro w'
        rw [run_min_int2, show (if (40 : Int) < nm then (40 : Int) else nm) = m from by split <;> omega]
      have hmi : (m : Int) ≤ (cm : Int) := by omega
      have hm0 : (0 : Int) ≤ (m : Int) := by omega
      have hm4 : m ≤ 40 ∧ m ≤ nm := by omega
      obtain ⟨a3, c3, rfl⟩ := own_slice HG.out.own
      have HE := Lib.hid (show CutEnd z am nm cm zm w (.returned (.tuple #[.slice am m cm, .slice a3 i c3])) wr from
        ⟨a3, i, c3, zs, m, rfl, hm4.1, made_take (HM.out.on HG.out.below) m hm4.2, ⟨HG.out.len, (own_rows HG.out.own).1, fun q hq => (HG.out.each q hq).on HG.out.below⟩, him, HG.out.small, hm4.2, (own_rows HG.out.own).2, HG.out.src, HG.out.below⟩)
      clear hm hm4
      by_cases h1 : i < n
      · have hil : (i : Int) < (n : Int) := by omega
        have hml : ¬ (i : Int) < 20 := by omega
        go_wp2_with fail
        refine bodyPost_ret (results_tmp2 rfl _ _ _) rfl ?_
        exact HE.out
      · have hil : ¬ (i : Int) < (n : Int) := by omega
        go_wp2_with fail
        refine bodyPost_ret (results_tmp2 rfl _ _ _) rfl ?_
        exact HE.out
end Go.Proofs.YtecknikehieioaaGreat

/-! ### RfOrd -/
namespace Go.Proofs.YtecknikehieioaaGreat
set_option linter.unusedVariables false
set_option linter.unusedSimpArgs false
open Go.RowKit Go.Maps

set_option maxRecDepth 100000 in
set_option maxHeartbeats 16000000 in
theorem orderR_any (w : World) (am : Option Addr) (nm cm : Nat) (zm : List MZ) (hm : MadeAt w am nm cm zm) (hnm : nm ≤ 100000) :
    Calls Tryz.prog 29 #[.slice am nm cm] w fun e w' => e = .returned (.int .i64 (orderL zm)) ∧ Below w.heap.size w w' := by
  have HMM := Lib.hid hm
  obtain ⟨ov, hov⟩ : ∃ v, orderL zm = v := ⟨_, rfl⟩
  have HOv := Lib.hid (show firstAt (orderC zm) 0 zm = ov from hov)
  rw [hov]
  clear hm hov
  go_enter Tryz.func29, Tryz.ntmps29
  go_wp2_with fail
  go_loopw [2, 3, 4, 5] (fun _ s3 _ _ wr => ∃ i : Nat, i ≤ nm ∧ s3 = .int .i64 i ∧ ov = firstAt (orderC zm) i (zm.drop i) ∧ Below w.heap.size w wr) (fun _ s3 _ _ _ => nm - (intOf s3).toNat)
  case atStart => exact ⟨0, by omega, rfl, HOv.out.symm, Below.refl _ _⟩
  case round =>
    clear HOv
    obtain ⟨i, hi, rfl, hfi, hb⟩ := hrel
    have HB := Lib.hid hb
    by_cases hlt : i < nm
    · have hil : (i : Int) < (nm : Int) := by omega
      obtain ⟨q, g, o, hq, hqz, rfl, hg, hc⟩ := (HMM.out.on hb).row hlt
      have HFi := Lib.hid (hfi.trans (firstAt_drop (orderC zm) zm i q hq))
      have HC := Lib.hid hc
      obtain ⟨b0, _, b2, _, _, _, _, _, _, _, _, _, _, _, b14, _⟩ := hc
      obtain ⟨bt, hbt⟩ : ∃ x, q.1.ts = x := ⟨_, rfl⟩
      obtain ⟨bk, hbk⟩ : ∃ x, q.1.kind = x := ⟨_, rfl⟩
      obtain ⟨bf, hbf⟩ : ∃ x, q.1.frm = x := ⟨_, rfl⟩
      rw [hbt] at b0
      rw [hbk] at b2
      rw [hbf] at b14
      obtain ⟨ob, hob⟩ : ∃ x, orderC zm q.1 = x := ⟨_, rfl⟩
      rw [hob] at HFi
      have HOb := Lib.hid (show ob = (decide (bk = 0) && zm.any fun p => belowC q.1 p.1) by rw [← hob, ← hbk]; rfl)
      have HBt := Lib.hid hbt
      have HBf := Lib.hid hbf
      have HRi := Lib.hid (show ∀ w', Below wr.heap.size wr w' → (w'.cell? ⟨g, o + i * 16, none⟩ = some (.int .u64 (bt : Nat)) ∧ w'.cell? ⟨g, o + i * 16 + 14, none⟩ = some (.int .i64 bf)) from fun w' hb => ⟨by rw [hb.cell (p := ⟨g, o + i * 16, none⟩) hg]; exact b0, by rw [hb.cell (p := ⟨g, o + i * 16 + 14, none⟩) hg]; exact b14⟩)
      clear hfi hb hq hqz b0 b14 hbt hbk hbf hob HC
      by_cases hk : bk = 0
      · have e1 : (bk == 0) = true := by simp [hk]
        have e2 : (bk != 0) = false := by simp [hk]
        have HOc := Lib.hid (show ob = zm.any fun p => belowC q.1 p.1 by rw [HOb.out, decide_eq_true hk, Bool.true_and])
        clear hk HOb
        go_upto_region 5 with fail
        clear b2
        go_wp2_with fail
        generalize wr = wo at *
        go_loopw [2, 4, 5] (fun _ s4 _ wr => ∃ k : Nat, k ≤ nm ∧ s4 = .int .i64 k ∧ (zm.take k).any (fun p => belowC q.1 p.1) = false ∧ Below wo.heap.size wo wr) (fun _ s4 _ _ => nm - (intOf s4).toNat)
        case atStart => exact ⟨0, by omega, rfl, rfl, Below.refl _ _⟩
        case round =>
          obtain ⟨k, hk, rfl, hno, hbk⟩ := hrel
          have HBk := Lib.hid hbk
          have HTk := Lib.hid (HB.out.trans (hbk.mono HB.out.size))
          by_cases hkn : k < nm
          · have hkl : (k : Int) < (nm : Int) := by omega
            obtain ⟨x, g2, o2, hx, hxz, ea, hg2, hc2⟩ := (HMM.out.on HTk.out).row hkn
            simp only [Option.some.injEq, Addr.mk.injEq, and_true] at ea
            obtain ⟨rfl, rfl⟩ := ea
            have HNo := Lib.hid (show (zm.take (k + 1)).any (fun p => belowC q.1 p.1) = belowC q.1 x.1 by rw [any_nextR _ zm k x hx, hno, Bool.false_or])
            have HMem := Lib.hid hxz
            have HC := Lib.hid hc2
            have HBox := Lib.hid (md_box wr x.1)
            have hbn := (Below.refl wr.heap.size wr).alloc (Nat.le_refl _) (.cells (mdCells x.1).toArray 40)
            have HBn := Lib.hid hbn
            have HXl0 := Lib.hid (show wr.heap.size < (wr.alloc (.cells (mdCells x.1).toArray 40)).heap.size by rw [World.size_alloc]; omega)
            clear hno hbk hx hxz hc2 hbn
            go_upto_region 9 with (first | ((with_reducible refine wpList_loadM rfl _ rfl _ _ _ HC.out ?_ ?_); rfl) | ((with_reducible refine wpList_storeM rfl _ _ rfl _ x.1 ?_ ?_ ?_); rfl; rfl))
            try go_frame
            obtain ⟨xb, hxb⟩ : ∃ y, wr.heap.size = y := ⟨_, rfl⟩
            rw [hxb] at HBox HXl0
            simp only [hxb]
            generalize wr.alloc (.cells (mdCells x.1).toArray 40) = w2 at *
            have HXl := Lib.hid (show xb < w2.heap.size from HXl0.out)
            obtain ⟨d0, _, d2, _, _, _, _, d7, _, _, d10, _, _, _, _, d15⟩ := (show MdCellsAt w2 xb 0 x.1 from HBox.out)
            obtain ⟨xt, hxt⟩ : ∃ y, x.1.ts = y := ⟨_, rfl⟩
            obtain ⟨xk, hxk⟩ : ∃ y, x.1.kind = y := ⟨_, rfl⟩
            obtain ⟨xd, hxd⟩ : ∃ y, x.1.dn = y := ⟨_, rfl⟩
            obtain ⟨xe, hxe⟩ : ∃ y, x.1.err = y := ⟨_, rfl⟩
            obtain ⟨xl, hxl⟩ : ∃ y, x.1.til = y := ⟨_, rfl⟩
            rw [hxt] at d0
            rw [hxk] at d2
            rw [hxd] at d7
            rw [hxe] at d10
            rw [hxl] at d15
            have HF := Lib.hid (show ∀ w', Below w2.heap.size w2 w' → ((w'.cell? ⟨xb, 0, none⟩ = some (.int .u64 (xt : Nat)) ∧ w'.cell? ⟨xb, 2, none⟩ = some (.int .i64 xk) ∧ w'.cell? ⟨xb, 7, none⟩ = some (.bool xd) ∧ w'.cell? ⟨xb, 10, none⟩ = some (.int .i64 xe) ∧ w'.cell? ⟨xb, 15, none⟩ = some (.int .i64 xl)) ∧ (w'.cell? ⟨g, o + i * 16, none⟩ = some (.int .u64 (bt : Nat)) ∧ w'.cell? ⟨g, o + i * 16 + 14, none⟩ = some (.int .i64 bf))) from fun w' hb =>
              ⟨⟨by rw [hb.cell (p := ⟨xb, 0, none⟩) HXl.out]; exact d0, by rw [hb.cell (p := ⟨xb, 2, none⟩) HXl.out]; exact d2, by rw [hb.cell (p := ⟨xb, 7, none⟩) HXl.out]; exact d7, by rw [hb.cell (p := ⟨xb, 10, none⟩) HXl.out]; exact d10, by rw [hb.cell (p := ⟨xb, 15, none⟩) HXl.out]; exact d15⟩, HRi.out w' (HBk.out.trans ((HBn.out.trans (hb.mono HBn.out.size)).mono HBk.out.size))⟩)
            obtain ⟨bb, hbb⟩ : ∃ y, belowC q.1 x.1 = y := ⟨_, rfl⟩
            have HBb := Lib.hid (show bb = ((decide (xk = 5) && (xd && decide (xe = 0))) && (decide (xl ≤ bf) && decide (bt ≤ xt))) by
              rw [← hbb]
              unfold belowC ackM
              rw [hxk, hxd, hxe, hxl, hxt, HBf.out, HBt.out])
            rw [hbb] at HNo
            have HBb0 := Lib.hid hbb
            have HB2 := Lib.hid (HBk.out.trans (HBn.out.mono HBk.out.size))
            have HT2 := Lib.hid (HTk.out.trans (HBn.out.mono HTk.out.size))
            clear d0 d2 d7 d10 d15 hbb hxt hxk hxd hxe hxl HBox HC hxb HXl0
            by_cases h5 : xk = 5
            · have e5 : (xk == 5) = true := by simp [h5]
              cases xd with
              | true =>
                by_cases he : xe = 0
                · have ee : (xe == 0) = true := by simp [he]
                  by_cases hl : xl ≤ bf
                  · by_cases ht : bt ≤ xt
                    · have et : (xt : Int) ≥ (bt : Int) := by omega
                      have HX := Lib.hid (show bb = true by rw [HBb.out]; simp [h5, he, hl, ht])
                      have HR := Lib.hid (show ov = (i : Int) by
                        have ho : ob = true := by
                          rw [HOc.out]
                          exact List.any_eq_true.2 ⟨x, HMem.out, by rw [HBb0.out, HX.out]⟩
                        rw [HFi.out, ho, if_pos rfl])
                      refine wp_region_settle (Below w2.heap.size w2) (by kernel_rfl) (by kernel_rfl) (by kernel_rfl) (below_drew (Below.refl _ _)) ?_
                      repeat (first
                        | (refine settled_not ?_ ?_
                           · rfl
                           simp only [Act.put, List.setIfInBounds_toArray, List.set_cons_zero, List.set_cons_succ])
                        | (refine settled_val (v := ?_) ?_ (fun w' hS => ?_) ?_
                           rotate_left
                           · rfl
                           · obtain ⟨⟨k0, k1, k2, k3, k4⟩, k5, k6⟩ := HF.out w' hS
                             go_simp
                             with_reducible rfl
                           simp only [Act.put, List.setIfInBounds_toArray, List.set_cons_zero, List.set_cons_succ]))
                      refine settled_nil (fun w8 hS => ?_)
                      have HE := Lib.hid (HT2.out.trans (hS.mono HT2.out.size))
                      clear hS
                      go_wp2_with fail
                      go_ret
                      rw [HR.out]
                      exact ⟨by try rfl, HE.out⟩
                    · have et : ¬ (xt : Int) ≥ (bt : Int) := by omega
                      have HX := Lib.hid (show bb = false by rw [HBb.out]; simp [ht])
                      refine wp_region_settle (Below w2.heap.size w2) (by kernel_rfl) (by kernel_rfl) (by kernel_rfl) (below_drew (Below.refl _ _)) ?_
                      repeat (first
                        | (refine settled_not ?_ ?_
                           · rfl
                           simp only [Act.put, List.setIfInBounds_toArray, List.set_cons_zero, List.set_cons_succ])
                        | (refine settled_val (v := ?_) ?_ (fun w' hS => ?_) ?_
                           rotate_left
                           · rfl
                           · obtain ⟨⟨k0, k1, k2, k3, k4⟩, k5, k6⟩ := HF.out w' hS
                             go_simp
                             with_reducible rfl
                           simp only [Act.put, List.setIfInBounds_toArray, List.set_cons_zero, List.set_cons_succ]))
                      refine settled_nil (fun w8 hS => ?_)
                      have HE := Lib.hid (HB2.out.trans (hS.mono HB2.out.size))
                      clear hS
                      go_wp2_with fail
                      go_roundw
                      case rel => exact ⟨k + 1, by omega, by go_num, by rw [HNo.out, HX.out], HE.out⟩
                      case measure => simp [intOf]; omega
                  · skip
                    have HX := Lib.hid (show bb = false by rw [HBb.out]; simp [hl])
                    refine wp_region_settle (Below w2.heap.size w2) (by kernel_rfl) (by kernel_rfl) (by kernel_rfl) (below_drew (Below.refl _ _)) ?_
                    repeat (first
                      | (refine settled_not ?_ ?_
                         · rfl
                         simp only [Act.put, List.setIfInBounds_toArray, List.set_cons_zero, List.set_cons_succ])
                      | (refine settled_val (v := ?_) ?_ (fun w' hS => ?_) ?_
                         rotate_left
                         · rfl
                         · obtain ⟨⟨k0, k1, k2, k3, k4⟩, k5, k6⟩ := HF.out w' hS
                           go_simp
                           with_reducible rfl
                         simp only [Act.put, List.setIfInBounds_toArray, List.set_cons_zero, List.set_cons_succ]))
                    refine settled_nil (fun w8 hS => ?_)
                    have HE := Lib.hid (HB2.out.trans (hS.mono HB2.out.size))
                    clear hS
                    go_wp2_with fail
                    go_roundw
                    case rel => exact ⟨k + 1, by omega, by go_num, by rw [HNo.out, HX.out], HE.out⟩
                    case measure => simp [intOf]; omega
                · have ee : (xe == 0) = false := by simp [he]
                  have HX := Lib.hid (show bb = false by rw [HBb.out]; simp [he])
                  refine wp_region_settle (Below w2.heap.size w2) (by kernel_rfl) (by kernel_rfl) (by kernel_rfl) (below_drew (Below.refl _ _)) ?_
                  repeat (first
                    | (refine settled_not ?_ ?_
                       · rfl
                       simp only [Act.put, List.setIfInBounds_toArray, List.set_cons_zero, List.set_cons_succ])
                    | (refine settled_val (v := ?_) ?_ (fun w' hS => ?_) ?_
                       rotate_left
                       · rfl
                       · obtain ⟨⟨k0, k1, k2, k3, k4⟩, k5, k6⟩ := HF.out w' hS
                         go_simp
                         with_reducible rfl
                       simp only [Act.put, List.setIfInBounds_toArray, List.set_cons_zero, List.set_cons_succ]))
                  refine settled_nil (fun w8 hS => ?_)
                  have HE := Lib.hid (HB2.out.trans (hS.mono HB2.out.size))
                  clear hS
                  go_wp2_with fail
                  go_roundw
                  case rel => exact ⟨k + 1, by omega, by go_num, by rw [HNo.out, HX.out], HE.out⟩
                  case measure => simp [intOf]; omega
              | false =>
                have HX := Lib.hid (show bb = false by rw [HBb.out]; simp)
                refine wp_region_settle (Below w2.heap.size w2) (by kernel_rfl) (by kernel_rfl) (by kernel_rfl) (below_drew (Below.refl _ _)) ?_
                repeat (first
                  | (refine settled_not ?_ ?_
                     · rfl
                     simp only [Act.put, List.setIfInBounds_toArray, List.set_cons_zero, List.set_cons_succ])
                  | (refine settled_val (v := ?_) ?_ (fun w' hS => ?_) ?_
                     rotate_left
                     · rfl
                     · obtain ⟨⟨k0, k1, k2, k3, k4⟩, k5, k6⟩ := HF.out w' hS
                       go_simp
                       with_reducible rfl
                     simp only [Act.put, List.setIfInBounds_toArray, List.set_cons_zero, List.set_cons_succ]))
                refine settled_nil (fun w8 hS => ?_)
                have HE := Lib.hid (HB2.out.trans (hS.mono HB2.out.size))
                clear hS
                go_wp2_with fail
                go_roundw
                case rel => exact ⟨k + 1, by omega, by go_num, by rw [HNo.out, HX.out], HE.out⟩
                case measure => simp [intOf]; omega
            · have e5 : (xk == 5) = false := by simp [h5]
              have HX := Lib.hid (show bb = false by rw [HBb.out]; simp [h5])
              refine wp_region_settle (Below w2.heap.size w2) (by kernel_rfl) (by kernel_rfl) (by kernel_rfl) (below_drew (Below.refl _ _)) ?_
              repeat (first
                | (refine settled_not ?_ ?_
                   · rfl
                   simp only [Act.put, List.setIfInBounds_toArray, List.set_cons_zero, List.set_cons_succ])
                | (refine settled_val (v := ?_) ?_ (fun w' hS => ?_) ?_
                   rotate_left
                   · rfl
                   · obtain ⟨⟨k0, k1, k2, k3, k4⟩, k5, k6⟩ := HF.out w' hS
                     go_simp
                     with_reducible rfl
                   simp only [Act.put, List.setIfInBounds_toArray, List.set_cons_zero, List.set_cons_succ]))
              refine settled_nil (fun w8 hS => ?_)
              have HE := Lib.hid (HB2.out.trans (hS.mono HB2.out.size))
              clear hS
              go_wp2_with fail
              go_roundw
              case rel => exact ⟨k + 1, by omega, by go_num, by rw [HNo.out, HX.out], HE.out⟩
              case measure => simp [intOf]; omega
          · have hkl : ¬ (k : Int) < (nm : Int) := by omega
            rw [List.take_of_length_le (by have := HMM.out.len; omega)] at hno
            have HX := Lib.hid (show ov = firstAt (orderC zm) (i + 1) (zm.drop (i + 1)) by rw [HFi.out, HOc.out, hno, if_neg (by decide)])
            clear hno hbk
            go_wp2_with fail
            go_roundw
            case rel => exact ⟨i + 1, by omega, by go_num, HX.out, HTk.out⟩
            case measure => simp [intOf]; omega
      · have e1 : (bk == 0) = false := by simp [hk]
        have e2 : (bk != 0) = true := by simp [hk]
        have HX := Lib.hid (show ov = firstAt (orderC zm) (i + 1) (zm.drop (i + 1)) by rw [HFi.out, HOb.out, decide_eq_false hk, Bool.false_and, if_neg (by decide)])
        clear hk HOb
        go_wp2_with fail
        go_roundw
        case rel => exact ⟨i + 1, by omega, by go_num, HX.out, HB.out⟩
        case measure => simp [intOf]; omega
    · have hil : ¬ (i : Int) < (nm : Int) := by omega
      have HX := Lib.hid (show ov = -1 by rw [hfi, List.drop_eq_nil_of_le (by have := HMM.out.len; omega)]; rfl)
      clear hfi hb
      go_wp2_with fail
      go_ret
      rw [HX.out]
      exact ⟨by try rfl, HB.out⟩
end Go.Proofs.YtecknikehieioaaGreat

/-! ### RfKept -/
namespace Go.Proofs.YtecknikehieioaaGreat
set_option linter.unusedVariables false
set_option linter.unusedSimpArgs false
open Go.RowKit Go.Maps

theorem ents_take {w : World} {a : Option Addr} {n c : Nat} {z : List EZ} (h : EntsAt w a n c z) (m : Nat) (hm : m ≤ n) : EntsAt w a m c (z.take m) :=
  ⟨by rw [List.length_take, h.len]; omega, by
    have hl := h.len
    refine h.rows.some_of m hm _ (by rw [ents_length, List.length_map, List.length_take]; congr 1; omega) fun i v hv => ?_
    have e : entsCells (z.map (·.1)) = entsCells ((z.take m).map (·.1)) ++ entsCells ((z.drop m).map (·.1)) := by
      unfold entsCells
      rw [← List.flatMap_append, ← List.map_append, List.take_append_drop]
    rw [e, List.getElem?_append_left (List.getElem?_eq_some_iff.1 hv).1]; exact hv, fun q hq => h.each q (List.mem_of_mem_take hq)⟩
def nextP (nx : Nat) (l : List Rec) : Nat := match l.getLast? with | none => nx | some r => (r.lsn + 1) % 18446744073709551616
theorem nextP_next (nx : Nat) (l : List Rec) (k : Nat) (r : Rec) (h : l[k]? = some r) : nextP nx (l.take (k + 1)) = (r.lsn + 1) % 18446744073709551616 := by
  unfold nextP
  rw [List.take_add_one, h]
  simp
theorem nextK_eq (nx : Nat) (x : Entry) : nextK nx x = nextP nx x.ops := rfl
set_option maxRecDepth 100000 in
set_option maxHeartbeats 4000000 in
theorem entryR_any (w : World) (a : Option Addr) (n c : Nat) (z : List EZ) (h : EntsAt w a n c z) (hn : n ≤ 100000) (ts : Nat) :
    Calls Tryz.prog 36 #[.slice a n c, .int .u64 (ts : Nat)] w fun e w' => e = .returned (.bool (entB (z.map (·.2)) ts)) ∧ Below w.heap.size w w' := by
  have HH := Lib.hid h
  obtain ⟨rb, hrb⟩ : ∃ b, entB (z.map (·.2)) ts = b := ⟨_, rfl⟩
  have HRb := Lib.hid hrb
  rw [hrb]
  clear h hrb
  go_enter Tryz.func36, Tryz.ntmps36
  go_wp2_with fail
  go_loopw [4, 5] (fun _ s5 wr => ∃ i : Nat, i ≤ n ∧ s5 = .int .i64 i ∧ entB ((z.map (·.2)).take i) ts = false ∧ Below w.heap.size w wr) (fun _ s5 _ => n - (intOf s5).toNat)
  case atStart => exact ⟨0, by omega, rfl, rfl, Below.refl _ _⟩
  case round =>
    obtain ⟨i, hi, rfl, hno, hb⟩ := hrel
    have HB := Lib.hid hb
    by_cases hlt : i < n
    · have hil : (i : Int) < (n : Int) := by omega
      obtain ⟨q, g, o, hq, hqz, rfl, hg, c0, _, _⟩ := (HH.out.on hb).row hlt
      have HNo := Lib.hid (show entB ((z.map (·.2)).take (i + 1)) ts = decide (q.2.ts = ts) by
        have := any_nextR (fun x : Entry => decide (x.ts = ts)) (z.map (·.2)) i q.2 (by rw [List.getElem?_map, hq]; rfl)
        unfold entB at hno ⊢
        rw [this, hno, Bool.false_or])
      have HIn := Lib.hid (show q.2.ts = ts → rb = true from fun h => by
        rw [← HRb.out]
        exact List.any_eq_true.2 ⟨q.2, List.mem_map_of_mem hqz, decide_eq_true h⟩)
      obtain ⟨qt, hqt⟩ : ∃ x, q.2.ts = x := ⟨_, rfl⟩
      rw [(HH.out.each q hqz).ts, hqt] at c0
      rw [hqt] at HNo HIn
      clear hno hb hq hqz hg hqt
      by_cases ht : qt = ts
      · have e1 : ((qt : Int) == (ts : Int)) = true := by simp [ht]
        have HX := Lib.hid (HIn.out ht)
        clear ht
        go_wp2_with fail
        go_ret
        rw [HX.out]
        exact ⟨by try rfl, HB.out⟩
      · have e1 : ((qt : Int) == (ts : Int)) = false := by simp; omega
        have HX := Lib.hid (show entB ((z.map (·.2)).take (i + 1)) ts = false by rw [HNo.out, decide_eq_false ht])
        clear ht
        go_wp2_with fail
        go_roundw
        case rel => exact ⟨i + 1, by omega, by go_num, HX.out, HB.out⟩
        case measure => simp [intOf]; omega
    · have hil : ¬ (i : Int) < (n : Int) := by omega
      rw [List.take_of_length_le (by rw [List.length_map, HH.out.len]; omega)] at hno
      have HX := Lib.hid (show rb = false by rw [← HRb.out, hno])
      clear hno hb
      go_wp2_with fail
      go_ret
      rw [HX.out]
      exact ⟨by try rfl, HB.out⟩
set_option maxRecDepth 100000 in
set_option maxHeartbeats 4000000 in
theorem askedR_any (w : World) (am : Option Addr) (nm cm : Nat) (zm : List MZ) (hm : MadeAt w am nm cm zm) (hnm : nm ≤ 100000) (ts : Nat) :
    Calls Tryz.prog 37 #[.slice am nm cm, .int .u64 (ts : Nat)] w fun e w' => e = .returned (.bool (askedB zm ts)) ∧ Below w.heap.size w w' := by
  have HH := Lib.hid hm
  obtain ⟨rb, hrb⟩ : ∃ b, askedB zm ts = b := ⟨_, rfl⟩
  have HRb := Lib.hid hrb
  rw [hrb]
  clear hm hrb
  go_enter Tryz.func37, Tryz.ntmps37
  go_wp2_with fail
  go_loopw [4, 5] (fun _ s5 wr => ∃ i : Nat, i ≤ nm ∧ s5 = .int .i64 i ∧ askedB (zm.take i) ts = false ∧ Below w.heap.size w wr) (fun _ s5 _ => nm - (intOf s5).toNat)
  case atStart => exact ⟨0, by omega, rfl, rfl, Below.refl _ _⟩
  case round =>
    obtain ⟨i, hi, rfl, hno, hb⟩ := hrel
    have HB := Lib.hid hb
    by_cases hlt : i < nm
    · have hil : (i : Int) < (nm : Int) := by omega
      obtain ⟨q, g, o, hq, hqz, rfl, hg, hc⟩ := (HH.out.on hb).row hlt
      obtain ⟨c0, _, c2, _⟩ := hc
      obtain ⟨qt, hqt⟩ : ∃ x, q.1.ts = x := ⟨_, rfl⟩
      obtain ⟨qk, hqk⟩ : ∃ x, q.1.kind = x := ⟨_, rfl⟩
      have HAc := Lib.hid (show askC ts q.1 = (decide (qt = ts) && decide (qk = 5)) by unfold askC; rw [hqt, hqk])
      have HNo := Lib.hid (show askedB (zm.take (i + 1)) ts = askC ts q.1 by
        have := any_nextR (fun q : MZ => askC ts q.1) zm i q hq
        unfold askedB at hno ⊢
        rw [this, hno, Bool.false_or])
      have HIn := Lib.hid (show askC ts q.1 = true → rb = true from fun h => by
        rw [← HRb.out]
        exact List.any_eq_true.2 ⟨q, hqz, h⟩)
      rw [hqt] at c0
      rw [hqk] at c2
      clear hno hb hq hqz hg hqt hqk
      by_cases ht : qt = ts
      · have e1 : ((qt : Int) == (ts : Int)) = true := by simp [ht]
        by_cases h5 : qk = 5
        · have e2 : (qk == 5) = true := by simp [h5]
          have HX := Lib.hid (HIn.out (by rw [HAc.out]; simp [ht, h5]))
          clear ht h5
          go_wp2_with fail
          go_ret
          rw [HX.out]
          exact ⟨by try rfl, HB.out⟩
        · have e2 : (qk == 5) = false := by simp [h5]
          have HX := Lib.hid (show askedB (zm.take (i + 1)) ts = false by rw [HNo.out, HAc.out]; simp [h5])
          clear ht h5
          go_wp2_with fail
          go_roundw
          case rel => exact ⟨i + 1, by omega, by go_num, HX.out, HB.out⟩
          case measure => simp [intOf]; omega
      · have e1 : ((qt : Int) == (ts : Int)) = false := by simp; omega
        have HX := Lib.hid (show askedB (zm.take (i + 1)) ts = false by rw [HNo.out, HAc.out]; simp [ht])
        clear ht
        go_wp2_with fail
        go_roundw
        case rel => exact ⟨i + 1, by omega, by go_num, HX.out, HB.out⟩
        case measure => simp [intOf]; omega
    · have hil : ¬ (i : Int) < (nm : Int) := by omega
      rw [List.take_of_length_le (by rw [HH.out.len]; omega)] at hno
      have HX := Lib.hid (show rb = false by rw [← HRb.out, hno])
      clear hno hb
      go_wp2_with fail
      go_ret
      rw [HX.out]
      exact ⟨by try rfl, HB.out⟩
set_option maxRecDepth 100000 in
set_option maxHeartbeats 8000000 in
theorem wroteK_any (w : World) (am : Option Addr) (nm cm : Nat) (zm : List MZ) (hm : MadeAt w am nm cm zm) (hnm : nm ≤ 100000) (ts : Nat) :
    Calls Tryz.prog 35 #[.slice am nm cm, .int .u64 (ts : Nat)] w fun e w' => e = .returned (.bool (wroteB zm ts)) ∧ Below w.heap.size w w' := by
  have HH := Lib.hid hm
  obtain ⟨rb, hrb⟩ : ∃ b, wroteB zm ts = b := ⟨_, rfl⟩
  have HRb := Lib.hid hrb
  rw [hrb]
  clear hm hrb
  go_enter Tryz.func35, Tryz.ntmps35
  go_wp2_with fail
  go_loopw [4, 5, 6] (fun _ s5 _ wr => ∃ i : Nat, i ≤ nm ∧ s5 = .int .i64 i ∧ wroteB (zm.take i) ts = false ∧ Below w.heap.size w wr) (fun _ s5 _ _ => nm - (intOf s5).toNat)
  case atStart => exact ⟨0, by omega, rfl, rfl, Below.refl _ _⟩
  case round =>
    obtain ⟨i, hi, rfl, hno, hb⟩ := hrel
    have HB := Lib.hid hb
    by_cases hlt : i < nm
    · have hil : (i : Int) < (nm : Int) := by omega
      obtain ⟨q, g, o, hq, hqz, rfl, hg, hc⟩ := (HH.out.on hb).row hlt
      have HNo := Lib.hid (show wroteB (zm.take (i + 1)) ts = (wroteK q.1 && decide (q.1.ts = ts)) by
        have := any_nextR (fun q : MZ => wroteK q.1 && decide (q.1.ts = ts)) zm i q hq
        unfold wroteB at hno ⊢
        rw [this, hno, Bool.false_or])
      have HIn := Lib.hid (show (wroteK q.1 && decide (q.1.ts = ts)) = true → rb = true from fun h => by
        rw [← HRb.out]
        exact List.any_eq_true.2 ⟨q, hqz, h⟩)
      clear hno
      have HC := Lib.hid hc
      have HBox := Lib.hid (md_box wr q.1)
      have hbn := (Below.refl wr.heap.size wr).alloc (Nat.le_refl _) (.cells (mdCells q.1).toArray 40)
      have HBn := Lib.hid hbn
      have HXl0 := Lib.hid (show wr.heap.size < (wr.alloc (.cells (mdCells q.1).toArray 40)).heap.size by rw [World.size_alloc]; omega)
      clear hb hq hqz hc hbn
      go_upto_region 5 with (first | ((with_reducible refine wpList_loadM rfl _ rfl _ _ _ HC.out ?_ ?_); rfl) | ((with_reducible refine wpList_storeM rfl _ _ rfl _ q.1 ?_ ?_ ?_); rfl; rfl))
      try go_frame
      obtain ⟨xb, hxb⟩ : ∃ y, wr.heap.size = y := ⟨_, rfl⟩
      rw [hxb] at HBox HXl0
      simp only [hxb]
      generalize wr.alloc (.cells (mdCells q.1).toArray 40) = w2 at *
      have HXl := Lib.hid (show xb < w2.heap.size from HXl0.out)
      obtain ⟨d0, _, d2, _, _, _, _, d7, _, _, d10, _, _, _, _, _⟩ := (show MdCellsAt w2 xb 0 q.1 from HBox.out)
      obtain ⟨xt, hxt⟩ : ∃ y, q.1.ts = y := ⟨_, rfl⟩
      obtain ⟨xk, hxk⟩ : ∃ y, q.1.kind = y := ⟨_, rfl⟩
      obtain ⟨xd, hxd⟩ : ∃ y, q.1.dn = y := ⟨_, rfl⟩
      obtain ⟨xe, hxe⟩ : ∃ y, q.1.err = y := ⟨_, rfl⟩
      rw [hxt] at d0
      rw [hxk] at d2
      rw [hxd] at d7
      rw [hxe] at d10
      have HB2 := Lib.hid (HB.out.trans (HBn.out.mono HB.out.size))
      have HV := Lib.hid (show (wroteK q.1 && decide (q.1.ts = ts)) = ((xd && (decide (xe = 0) && (decide (xk = 3) || decide (xk = 4)))) && decide (xt = ts)) by unfold wroteK; rw [hxt, hxk, hxd, hxe])
      clear hxt hxk hxd hxe HBox HC hxb HXl0
      by_cases ht : xt = ts
      · have et : ((xt : Int) == (ts : Int)) = true := by simp [ht]
        cases xd with
        | true =>
          by_cases he : xe = 0
          · have ee : (xe == 0) = true := by simp [he]
            by_cases h3 : xk = 3
            · have e3 : (xk == 3) = true := by simp [h3]
              have HX := Lib.hid (HIn.out (by rw [HV.out]; simp [ht, he, h3]))
              go_wp2_with fail
              go_ret
              rw [HX.out]
              exact ⟨by try rfl, HB2.out⟩
            · have e3 : (xk == 3) = false := by simp [h3]
              by_cases h4 : xk = 4
              · have e4 : (xk == 4) = true := by simp [h4]
                have HX := Lib.hid (HIn.out (by rw [HV.out]; simp [ht, he, h4]))
                go_wp2_with fail
                go_ret
                rw [HX.out]
                exact ⟨by try rfl, HB2.out⟩
              · have e4 : (xk == 4) = false := by simp [h4]
                have HX := Lib.hid (show wroteB (zm.take (i + 1)) ts = false by rw [HNo.out, HV.out]; simp [h3, h4])
                go_wp2_with fail
                go_roundw
                case rel => exact ⟨i + 1, by omega, by go_num, HX.out, HB2.out⟩
                case measure => simp [intOf]; omega
          · have ee : (xe == 0) = false := by simp [he]
            have HX := Lib.hid (show wroteB (zm.take (i + 1)) ts = false by rw [HNo.out, HV.out]; simp [he])
            go_wp2_with fail
            go_roundw
            case rel => exact ⟨i + 1, by omega, by go_num, HX.out, HB2.out⟩
            case measure => simp [intOf]; omega
        | false =>
          have HX := Lib.hid (show wroteB (zm.take (i + 1)) ts = false by rw [HNo.out, HV.out]; simp)
          go_wp2_with fail
          go_roundw
          case rel => exact ⟨i + 1, by omega, by go_num, HX.out, HB2.out⟩
          case measure => simp [intOf]; omega
      · have et : ((xt : Int) == (ts : Int)) = false := by simp; omega
        have HX := Lib.hid (show wroteB (zm.take (i + 1)) ts = false by rw [HNo.out, HV.out]; simp [ht])
        go_wp2_with fail
        go_roundw
        case rel => exact ⟨i + 1, by omega, by go_num, HX.out, HB2.out⟩
        case measure => simp [intOf]; omega
    · have hil : ¬ (i : Int) < (nm : Int) := by omega
      rw [List.take_of_length_le (by rw [HH.out.len]; omega)] at hno
      have HX := Lib.hid (show rb = false by rw [← HRb.out, hno])
      clear hno hb
      go_wp2_with fail
      go_ret
      rw [HX.out]
      exact ⟨by try rfl, HB.out⟩
set_option maxRecDepth 100000 in
set_option maxHeartbeats 16000000 in
theorem keptR_any (w : World) (am : Option Addr) (nm cm : Nat) (zm : List MZ) (hm : MadeAt w am nm cm zm) (hnm : nm ≤ 100000) (a : Option Addr) (n c : Nat) (z : List EZ) (h : EntsAt w a n c z) (hn : n ≤ 100000) (hops : ∀ q ∈ z, q.2.ops.length ≤ 1000000) :
    Calls Tryz.prog 14 #[.slice am nm cm, .slice a n c] w (KeptEnd zm (z.map (·.2)) w) := by
  have HMM := Lib.hid hm
  have HH := Lib.hid h
  have HO := Lib.hid hops
  have hmx := h.rows.cap
  have HLen := Lib.hid (show (z.map (·.2)).length = n by rw [List.length_map, h.len])
  have HZl := Lib.hid hm.len
  obtain ⟨LL, hLL⟩ : ∃ X, z.map (·.2) = X := ⟨_, rfl⟩
  unfold KeptEnd
  rw [hLL] at HLen ⊢
  have HLL := Lib.hid hLL
  obtain ⟨kv, hkv⟩ : ∃ v, keptL zm LL = v := ⟨_, rfl⟩
  have HKv := Lib.hid (show kv = if 0 ≤ firstAt (keptC zm LL) 0 zm then firstAt (keptC zm LL) 0 zm else if scanK zm [] 1 0 LL < 0 then -1 else zm.length + scanK zm [] 1 0 LL from hkv.symm)
  rw [hkv]
  clear hm h hops hLL hkv
  go_enter Tryz.func14, Tryz.ntmps14
  go_wp2_with fail
  go_loopw [4, 5, 6] (fun _ s5 _ wr => ∃ i : Nat, i ≤ nm ∧ s5 = .int .i64 i ∧ firstAt (keptC zm LL) 0 zm = firstAt (keptC zm LL) i (zm.drop i) ∧ Below w.heap.size w wr) (fun _ s5 _ _ => nm - (intOf s5).toNat)
  case atStart => exact ⟨0, by omega, rfl, rfl, Below.refl _ _⟩
  case round =>
    obtain ⟨i, hi, rfl, hfi, hb⟩ := hrel
    have HB := Lib.hid hb
    by_cases hlt : i < nm
    · have hil : (i : Int) < (nm : Int) := by omega
      obtain ⟨q, g, o, hq, hqz, rfl, hg, hc⟩ := (HMM.out.on hb).row hlt
      have HFi := Lib.hid (hfi.trans (firstAt_drop (keptC zm LL) zm i q hq))
      clear hfi
      have HC := Lib.hid hc
      have HBox := Lib.hid (md_box wr q.1)
      have hbn := (Below.refl wr.heap.size wr).alloc (Nat.le_refl _) (.cells (mdCells q.1).toArray 40)
      have HBn := Lib.hid hbn
      have HXl0 := Lib.hid (show wr.heap.size < (wr.alloc (.cells (mdCells q.1).toArray 40)).heap.size by rw [World.size_alloc]; omega)
      clear hb hq hqz hc hbn
      go_upto_region 5 with (first | ((with_reducible refine wpList_loadM rfl _ rfl _ _ _ HC.out ?_ ?_); rfl) | ((with_reducible refine wpList_storeM rfl _ _ rfl _ q.1 ?_ ?_ ?_); rfl; rfl))
      try go_frame
      obtain ⟨xb, hxb⟩ : ∃ y, wr.heap.size = y := ⟨_, rfl⟩
      rw [hxb] at HBox HXl0
      simp only [hxb]
      generalize wr.alloc (.cells (mdCells q.1).toArray 40) = w2 at *
      have HXl := Lib.hid (show xb < w2.heap.size from HXl0.out)
      obtain ⟨d0, _, d2, _, _, _, _, d7, _, _, d10, _, _, _, _, _⟩ := (show MdCellsAt w2 xb 0 q.1 from HBox.out)
      obtain ⟨xt, hxt⟩ : ∃ y, q.1.ts = y := ⟨_, rfl⟩
      obtain ⟨xk, hxk⟩ : ∃ y, q.1.kind = y := ⟨_, rfl⟩
      obtain ⟨xd, hxd⟩ : ∃ y, q.1.dn = y := ⟨_, rfl⟩
      obtain ⟨xe, hxe⟩ : ∃ y, q.1.err = y := ⟨_, rfl⟩
      rw [hxt] at d0
      rw [hxk] at d2
      rw [hxd] at d7
      rw [hxe] at d10
      have HB2 := Lib.hid (HB.out.trans (HBn.out.mono HB.out.size))
      obtain ⟨b1, hb1⟩ : ∃ b, wroteB zm xt = b := ⟨_, rfl⟩
      obtain ⟨b2, hb2⟩ : ∃ b, entB LL xt = b := ⟨_, rfl⟩
      have HV := Lib.hid (show keptC zm LL q.1 = (decide (xk = 5) && (xd && (decide (xe = 0) && (b1 && !b2)))) by unfold keptC; rw [hxt, hxk, hxd, hxe, hb1, hb2])
      have HWr := Lib.hid (by have := wroteK_any w2 _ nm cm zm (HMM.out.on HB2.out) hnm xt; rw [hb1] at this; exact this)
      have HEn := Lib.hid (show ∀ w', Below w.heap.size w w' → Calls Tryz.prog 36 #[.slice a n c, .int .u64 (xt : Nat)] w' fun e w'' => e = .returned (.bool b2) ∧ Below w'.heap.size w' w'' from fun w' hb => by
        have := entryR_any w' a n c z (HH.out.on hb) hn xt
        rw [HLL.out, hb2] at this
        exact this)
      have HD0 := Lib.hid (show ∀ w', Below w2.heap.size w2 w' → w'.cell? ⟨xb, 0, none⟩ = some (.int .u64 (xt : Nat)) from fun w' hb => by rw [hb.cell (p := ⟨xb, 0, none⟩) HXl.out]; exact d0)
      clear hxt hxk hxd hxe HBox HC hxb HXl0 hb1 hb2
      by_cases hk : xk = 5
      · have ek : (xk == 5) = true := by simp [hk]
        cases xd with
        | true =>
          by_cases he : xe = 0
          · have ee : (xe == 0) = true := by simp [he]
            go_wp2_with fail
            refine HWr.out.mono ?_
            rintro e w3 ⟨rfl, hb3⟩
            have HB3 := Lib.hid (HB2.out.trans (hb3.mono HB2.out.size))
            have d0 := HD0.out w3 hb3
            clear hb3
            cases b1 with
            | false =>
              have HX := Lib.hid (show firstAt (keptC zm LL) 0 zm = firstAt (keptC zm LL) (i + 1) (zm.drop (i + 1)) by rw [HFi.out, HV.out]; simp)
              go_wp2_with fail
              go_roundw
              case rel => exact ⟨i + 1, by omega, by go_num, HX.out, HB3.out⟩
              case measure => simp [intOf]; omega
            | true =>
              have HE3 := Lib.hid (HEn.out w3 HB3.out)
              go_wp2_with fail
              refine HE3.out.mono ?_
              rintro e w4 ⟨rfl, hb4⟩
              have HB4 := Lib.hid (HB3.out.trans (hb4.mono HB3.out.size))
              clear hb4
              cases b2 with
              | true =>
                have HX := Lib.hid (show firstAt (keptC zm LL) 0 zm = firstAt (keptC zm LL) (i + 1) (zm.drop (i + 1)) by rw [HFi.out, HV.out]; simp)
                go_wp2_with fail
                go_roundw
                case rel => exact ⟨i + 1, by omega, by go_num, HX.out, HB4.out⟩
                case measure => simp [intOf]; omega
              | false =>
                have HX := Lib.hid (show kv = (i : Int) by
                  have h1 : firstAt (keptC zm LL) 0 zm = (i : Int) := by rw [HFi.out, HV.out]; simp [hk, he]
                  rw [HKv.out, h1, if_pos (by omega)])
                go_wp2_with fail
                go_ret
                rw [HX.out]
                exact ⟨by try rfl, HB4.out⟩
          · have ee : (xe == 0) = false := by simp [he]
            have HX := Lib.hid (show firstAt (keptC zm LL) 0 zm = firstAt (keptC zm LL) (i + 1) (zm.drop (i + 1)) by rw [HFi.out, HV.out]; simp [he])
            go_wp2_with fail
            go_roundw
            case rel => exact ⟨i + 1, by omega, by go_num, HX.out, HB2.out⟩
            case measure => simp [intOf]; omega
        | false =>
          have HX := Lib.hid (show firstAt (keptC zm LL) 0 zm = firstAt (keptC zm LL) (i + 1) (zm.drop (i + 1)) by rw [HFi.out, HV.out]; simp)
          go_wp2_with fail
          go_roundw
          case rel => exact ⟨i + 1, by omega, by go_num, HX.out, HB2.out⟩
          case measure => simp [intOf]; omega
      · have ek : (xk == 5) = false := by simp [hk]
        have HX := Lib.hid (show firstAt (keptC zm LL) 0 zm = firstAt (keptC zm LL) (i + 1) (zm.drop (i + 1)) by rw [HFi.out, HV.out]; simp [hk])
        go_wp2_with fail
        go_roundw
        case rel => exact ⟨i + 1, by omega, by go_num, HX.out, HB2.out⟩
        case measure => simp [intOf]; omega
    · have hil : ¬ (i : Int) < (nm : Int) := by omega
      have HX := Lib.hid (show kv = if scanK zm [] 1 0 LL < 0 then -1 else zm.length + scanK zm [] 1 0 LL by
        rw [List.drop_eq_nil_of_le (by have := HZl.out; omega)] at hfi
        rw [HKv.out, hfi, if_neg (by show ¬ ((0 : Int) ≤ -1); decide)])
      clear hfi hb
      go_wp2_with fail
      generalize wr = wo at *
      go_loopw [4, 7, 8, 9] (fun _ s7 s8 _ wr => ∃ (i nx : Nat), i ≤ n ∧ nx < 18446744073709551616 ∧ s8 = .int .i64 i ∧ s7 = .int .u64 (nx : Nat) ∧ scanK zm [] 1 0 LL = scanK zm (LL.take i) nx i (LL.drop i) ∧ Below w.heap.size w wr) (fun _ _ s8 _ _ => n - (intOf s8).toNat)
      case atStart => exact ⟨0, 1, by omega, by omega, rfl, rfl, rfl, HB.out⟩
      case round =>
        clear HB
        obtain ⟨i, nx, hi, hnx, rfl, rfl, hsc, hb⟩ := hrel
        have HB := Lib.hid hb
        by_cases hlt : i < n
        · have hil : (i : Int) < (n : Int) := by omega
          have hic : (i : Int) ≤ (c : Int) := by omega
          have hi0 : (0 : Int) ≤ (i : Int) := by omega
          obtain ⟨q, g, o, hq, hqz, rfl, hg, c0, c1, c2⟩ := (HH.out.on hb).row hlt
          have hqL : LL[i]? = some q.2 := by rw [← HLL.out, List.getElem?_map, hq]; rfl
          have HSt := Lib.hid (hsc.trans (scanK_step zm LL nx i q.2 hqL))
          have HQ := Lib.hid (HH.out.each q hqz)
          have HQo := Lib.hid (HO.out q hqz)
          obtain ⟨xt, hxt⟩ : ∃ y, q.2.ts = y := ⟨_, rfl⟩
          obtain ⟨xf, hxf⟩ : ∃ y, q.2.first = y := ⟨_, rfl⟩
          rw [HQ.out.ts, hxt] at c0
          rw [HQ.out.first, hxf] at c1
          obtain ⟨b1, hb1⟩ : ∃ b, askedB zm xt = b := ⟨_, rfl⟩
          obtain ⟨b2, hb2⟩ : ∃ b, entB (LL.take i) xt = b := ⟨_, rfl⟩
          have HV := Lib.hid (show badE zm (LL.take i) nx q.2 = (!b1 || (b2 || !decide (xf = nx))) by unfold badE; rw [hxt, hxf, hb1, hb2])
          have HAs := Lib.hid (show ∀ w', Below wr.heap.size wr w' → Calls Tryz.prog 37 #[.slice am nm cm, .int .u64 (xt : Nat)] w' fun e w'' => e = .returned (.bool b1) ∧ Below w'.heap.size w' w'' from fun w' hb => by
            have := askedR_any w' am nm cm zm (HMM.out.on (HB.out.trans (hb.mono HB.out.size))) hnm xt
            rw [hb1] at this
            exact this)
          have HEn := Lib.hid (show ∀ w', Below wr.heap.size wr w' → Calls Tryz.prog 36 #[.slice (some ⟨g, o, none⟩) i c, .int .u64 (xt : Nat)] w' fun e w'' => e = .returned (.bool b2) ∧ Below w'.heap.size w' w'' from fun w' hb => by
            have := entryR_any w' _ i c (z.take i) (ents_take (HH.out.on (HB.out.trans (hb.mono HB.out.size))) i (by omega)) (by omega) xt
            rw [List.map_take, HLL.out, hb2] at this
            exact this)
          have HF := Lib.hid (show ∀ w', Below wr.heap.size wr w' → (w'.cell? ⟨g, o + i * 3, none⟩ = some (.int .u64 (xt : Nat)) ∧ w'.cell? ⟨g, o + i * 3 + 1, none⟩ = some (.int .u64 (xf : Nat)) ∧ w'.cell? ⟨g, o + i * 3 + 2, none⟩ = some (.slice q.1.a q.1.n q.1.c)) from fun w' hb => ⟨by rw [hb.cell (p := ⟨g, o + i * 3, none⟩) hg]; exact c0, by rw [hb.cell (p := ⟨g, o + i * 3 + 1, none⟩) hg]; exact c1, by rw [hb.cell (p := ⟨g, o + i * 3 + 2, none⟩) hg]; exact c2⟩)
          clear hsc hb hq hqz hg c0 c1 c2 hqL hxt hxf hb1 hb2
          go_upto_region 11 with fail
          cases b1 with
          | false =>
            have HR := Lib.hid (show kv = (nm : Int) + (i : Int) by
              have h1 : scanK zm [] 1 0 LL = (i : Int) := by rw [HSt.out, HV.out]; simp
              rw [HX.out, h1, if_neg (by omega), HZl.out])
            have hwr : IntKind.i64.wrap ((nm : Int) + (i : Int)) = (nm : Int) + (i : Int) := IntWalk.i64_in _ (by omega)
            refine wp_region_settle (Below wr.heap.size wr) (by kernel_rfl) (by kernel_rfl) (by kernel_rfl) (below_drew (Below.refl _ _)) ?_
            repeat (first
              | (refine settled_not ?_ ?_
                 · rfl
                 simp only [Act.put, List.setIfInBounds_toArray, List.set_cons_zero, List.set_cons_succ])
              | (refine settled_val (v := ?_) ?_ (fun w' hS => ?_) ?_
                 rotate_left
                 · rfl
                 · obtain ⟨k0, k1, k2⟩ := HF.out w' hS
                   go_simp
                   with_reducible rfl
                 simp only [Act.put, List.setIfInBounds_toArray, List.set_cons_zero, List.set_cons_succ])
              | (refine settled_call (f := 37) (v := .bool false) ?_ (fun w' hS => ?_) (fun w' hS => ((HAs.out w' hS).mono fun e w'' ⟨h1, h2⟩ => ⟨h1, hS.trans (h2.mono hS.size)⟩)) ?_
                 · rfl
                 · go_simp
                 simp only [Act.put, List.setIfInBounds_toArray, List.set_cons_zero, List.set_cons_succ])
              | (refine settled_call (f := 36) (v := .bool b2) ?_ (fun w' hS => ?_) (fun w' hS => ((HEn.out w' hS).mono fun e w'' ⟨h1, h2⟩ => ⟨h1, hS.trans (h2.mono hS.size)⟩)) ?_
                 · rfl
                 · go_simp
                 simp only [Act.put, List.setIfInBounds_toArray, List.set_cons_zero, List.set_cons_succ]))
            refine settled_nil (fun w8 hS => ?_)
            have HE := Lib.hid (HB.out.trans (hS.mono HB.out.size))
            clear hS
            go_wp2_with fail
            go_ret
            rw [HR.out]
            exact ⟨by try rfl, HE.out⟩
          | true =>
            cases b2 with
            | true =>
              have HR := Lib.hid (show kv = (nm : Int) + (i : Int) by
                have h1 : scanK zm [] 1 0 LL = (i : Int) := by rw [HSt.out, HV.out]; simp
                rw [HX.out, h1, if_neg (by omega), HZl.out])
              have hwr : IntKind.i64.wrap ((nm : Int) + (i : Int)) = (nm : Int) + (i : Int) := IntWalk.i64_in _ (by omega)
              refine wp_region_settle (Below wr.heap.size wr) (by kernel_rfl) (by kernel_rfl) (by kernel_rfl) (below_drew (Below.refl _ _)) ?_
              repeat (first
                | (refine settled_not ?_ ?_
                   · rfl
                   simp only [Act.put, List.setIfInBounds_toArray, List.set_cons_zero, List.set_cons_succ])
                | (refine settled_val (v := ?_) ?_ (fun w' hS => ?_) ?_
                   rotate_left
                   · rfl
                   · obtain ⟨k0, k1, k2⟩ := HF.out w' hS
                     go_simp
                     with_reducible rfl
                   simp only [Act.put, List.setIfInBounds_toArray, List.set_cons_zero, List.set_cons_succ])
                | (refine settled_call (f := 37) (v := .bool true) ?_ (fun w' hS => ?_) (fun w' hS => ((HAs.out w' hS).mono fun e w'' ⟨h1, h2⟩ => ⟨h1, hS.trans (h2.mono hS.size)⟩)) ?_
                   · rfl
                   · go_simp
                   simp only [Act.put, List.setIfInBounds_toArray, List.set_cons_zero, List.set_cons_succ])
                | (refine settled_call (f := 36) (v := .bool true) ?_ (fun w' hS => ?_) (fun w' hS => ((HEn.out w' hS).mono fun e w'' ⟨h1, h2⟩ => ⟨h1, hS.trans (h2.mono hS.size)⟩)) ?_
                   · rfl
                   · go_simp
                   simp only [Act.put, List.setIfInBounds_toArray, List.set_cons_zero, List.set_cons_succ]))
              refine settled_nil (fun w8 hS => ?_)
              have HE := Lib.hid (HB.out.trans (hS.mono HB.out.size))
              clear hS
              go_wp2_with fail
              go_ret
              rw [HR.out]
              exact ⟨by try rfl, HE.out⟩
            | false =>
              by_cases hf : xf = nx
              · have ef : ((xf : Int) != (nx : Int)) = false := by simp [hf]
                have ef2 : ((xf : Int) == (nx : Int)) = true := by simp [hf]
                have HR := Lib.hid (show scanK zm [] 1 0 LL = scanK zm (LL.take (i + 1)) (nextP nx q.2.ops) (i + 1) (LL.drop (i + 1)) by
                  rw [HSt.out, HV.out, nextK_eq]; simp [hf])
                clear hf
                refine wp_region_settle (Below wr.heap.size wr) (by kernel_rfl) (by kernel_rfl) (by kernel_rfl) (below_drew (Below.refl _ _)) ?_
                repeat (first
                  | (refine settled_not ?_ ?_
                     · rfl
                     simp only [Act.put, List.setIfInBounds_toArray, List.set_cons_zero, List.set_cons_succ])
                  | (refine settled_val (v := ?_) ?_ (fun w' hS => ?_) ?_
                     rotate_left
                     · rfl
                     · obtain ⟨k0, k1, k2⟩ := HF.out w' hS
                       go_simp
                       with_reducible rfl
                     simp only [Act.put, List.setIfInBounds_toArray, List.set_cons_zero, List.set_cons_succ])
                  | (refine settled_call (f := 37) (v := .bool true) ?_ (fun w' hS => ?_) (fun w' hS => ((HAs.out w' hS).mono fun e w'' ⟨h1, h2⟩ => ⟨h1, hS.trans (h2.mono hS.size)⟩)) ?_
                     · rfl
                     · go_simp
                     simp only [Act.put, List.setIfInBounds_toArray, List.set_cons_zero, List.set_cons_succ])
                  | (refine settled_call (f := 36) (v := .bool false) ?_ (fun w' hS => ?_) (fun w' hS => ((HEn.out w' hS).mono fun e w'' ⟨h1, h2⟩ => ⟨h1, hS.trans (h2.mono hS.size)⟩)) ?_
                     · rfl
                     · go_simp
                     simp only [Act.put, List.setIfInBounds_toArray, List.set_cons_zero, List.set_cons_succ]))
                refine settled_nil (fun w8 hS => ?_)
                have HE := Lib.hid (HB.out.trans (hS.mono HB.out.size))
                have HS8 := Lib.hid hS
                clear hS
                go_wp2_with fail
                obtain ⟨⟨et, ef', ea, en, ec⟩, x⟩ := q
                have hen : en ≤ 1000000 := by have h1 := HQ.out.n; have h2 := HQo.out; simp only at h1 h2; omega
                simp only at HF
                go_loopw [7, 9] (fun s7 s9 wx => ∃ (k nk : Nat), k ≤ en ∧ nk < 18446744073709551616 ∧ s9 = .int .i64 k ∧ s7 = .int .u64 (nk : Nat) ∧ nk = nextP nx (x.ops.take k) ∧ Below w8.heap.size w8 wx) (fun _ s9 _ => en - (intOf s9).toNat)
                case atStart => exact ⟨0, nx, by omega, hnx, rfl, rfl, rfl, Below.refl _ _⟩
                case round =>
                  obtain ⟨k, nk, hk, hnk, rfl, rfl, hne, hbk⟩ := hrel
                  have HNe := Lib.hid hne
                  have HBk := Lib.hid (HS8.out.trans (hbk.mono HS8.out.size))
                  have HBx := Lib.hid hbk
                  obtain ⟨_, _, k2⟩ := HF.out wr HBk.out
                  clear hne hbk
                  by_cases hkn : k < en
                  · have hkl : (k : Int) < (en : Int) := by omega
                    obtain ⟨r, g2, o2, hr, hrl, ea2, hg2, _, d1, _, _⟩ := recs_row (HQ.out.rows.on (HB.out.trans (HBk.out.mono HB.out.size))) HQ.out.n hkn
                    have HN1 := Lib.hid (nextP_next nx x.ops k r hr)
                    obtain ⟨rl, hrl2⟩ : ∃ y, r.lsn = y := ⟨_, rfl⟩
                    rw [hrl2] at d1 HN1
                    obtain ⟨nl, hnl⟩ : ∃ y, (rl + 1) % 18446744073709551616 = y := ⟨_, rfl⟩
                    have hnl1 : nl < 18446744073709551616 := by rw [← hnl]; exact Nat.mod_lt _ (by omega)
                    have hwl : IntKind.u64.wrap ((rl : Int) + 1) = (nl : Int) := by
                      have : IntKind.u64.wrap ((rl : Int) + 1) = ((rl : Int) + 1) % 18446744073709551616 := rfl
                      rw [this]
                      omega
                    rw [hnl] at HN1
                    simp only at ea2
                    subst ea2
                    clear hr hrl hg2 hrl2 hnl
                    go_wp2_with fail
                    go_roundw
                    case rel => exact ⟨k + 1, nl, by omega, hnl1, by go_num, rfl, HN1.out.symm, HBx.out⟩
                    case measure => simp [intOf]; omega
                  · have hkl : ¬ (k : Int) < (en : Int) := by omega
                    have HNn := Lib.hid (show nextP nx x.ops = nk by
                      have h1 := HNe.out
                      rw [List.take_of_length_le (by have := HQ.out.n; simp only at this; omega)] at h1
                      exact h1.symm)
                    have HEk := Lib.hid (HE.out.trans (HBx.out.mono HE.out.size))
                    go_wp2_with fail
                    go_roundw
                    case rel => exact ⟨i + 1, nk, by omega, hnk, by go_num, rfl, by rw [← HNn.out]; exact HR.out, HEk.out⟩
                    case measure => simp [intOf]; omega
              · have ef : ((xf : Int) != (nx : Int)) = true := by simp; omega
                have ef2 : ((xf : Int) == (nx : Int)) = false := by simp; omega
                have HR := Lib.hid (show kv = (nm : Int) + (i : Int) by
                  have h1 : scanK zm [] 1 0 LL = (i : Int) := by rw [HSt.out, HV.out]; simp [hf]
                  rw [HX.out, h1, if_neg (by omega), HZl.out])
                have hwr : IntKind.i64.wrap ((nm : Int) + (i : Int)) = (nm : Int) + (i : Int) := IntWalk.i64_in _ (by omega)
                refine wp_region_settle (Below wr.heap.size wr) (by kernel_rfl) (by kernel_rfl) (by kernel_rfl) (below_drew (Below.refl _ _)) ?_
                repeat (first
                  | (refine settled_not ?_ ?_
                     · rfl
                     simp only [Act.put, List.setIfInBounds_toArray, List.set_cons_zero, List.set_cons_succ])
                  | (refine settled_val (v := ?_) ?_ (fun w' hS => ?_) ?_
                     rotate_left
                     · rfl
                     · obtain ⟨k0, k1, k2⟩ := HF.out w' hS
                       go_simp
                       with_reducible rfl
                     simp only [Act.put, List.setIfInBounds_toArray, List.set_cons_zero, List.set_cons_succ])
                  | (refine settled_call (f := 37) (v := .bool true) ?_ (fun w' hS => ?_) (fun w' hS => ((HAs.out w' hS).mono fun e w'' ⟨h1, h2⟩ => ⟨h1, hS.trans (h2.mono hS.size)⟩)) ?_
                     · rfl
                     · go_simp
                     simp only [Act.put, List.setIfInBounds_toArray, List.set_cons_zero, List.set_cons_succ])
                  | (refine settled_call (f := 36) (v := .bool false) ?_ (fun w' hS => ?_) (fun w' hS => ((HEn.out w' hS).mono fun e w'' ⟨h1, h2⟩ => ⟨h1, hS.trans (h2.mono hS.size)⟩)) ?_
                     · rfl
                     · go_simp
                     simp only [Act.put, List.setIfInBounds_toArray, List.set_cons_zero, List.set_cons_succ]))
                refine settled_nil (fun w8 hS => ?_)
                have HE := Lib.hid (HB.out.trans (hS.mono HB.out.size))
                clear hS
                go_wp2_with fail
                go_ret
                rw [HR.out]
                exact ⟨by try rfl, HE.out⟩
        · have hil : ¬ (i : Int) < (n : Int) := by omega
          have HR := Lib.hid (show kv = -1 by
            rw [List.drop_eq_nil_of_le (by have := HLen.out; omega)] at hsc
            rw [HX.out, hsc]
            exact if_pos (by show (-1 : Int) < 0; decide))
          clear hsc hb
          go_wp2_with fail
          go_ret
          rw [HR.out]
          exact ⟨by try rfl, HB.out⟩
end Go.Proofs.YtecknikehieioaaGreat

/-! ### Walk28A -/
namespace Go.Proofs.YtecknikehieioaaGreat
set_option linter.unusedVariables false
set_option linter.unusedSimpArgs false
open Go.RowKit Go.Maps

theorem serialR28_any (w : World) (am : Option Addr) (nm cm : Nat) (a : Option Addr) (n c : Nat) (v : Int) (h : Calls Tryz.prog 27 #[.slice a n c, .slice am nm cm] w fun e w' => e = .returned (.int .i64 v) ∧ Below w.heap.size w w') :
    Calls Tryz.prog 10 #[.slice am nm cm, .slice a n c] w fun e w' => e = .returned (.int .i64 v) ∧ Below w.heap.size w w' := by
  have H := Lib.hid h
  clear h
  go_enter Tryz.func10, Tryz.ntmps10
  go_wp2_with fail
  refine H.out.mono ?_
  rintro e w1 ⟨rfl, hb⟩
  have HB := Lib.hid hb
  clear hb
  go_wp2_with fail
  go_ret
  exact ⟨by try rfl, HB.out⟩
theorem orderR28_any (w : World) (am : Option Addr) (nm cm : Nat) (v : Int) (h : Calls Tryz.prog 29 #[.slice am nm cm] w fun e w' => e = .returned (.int .i64 v) ∧ Below w.heap.size w w') :
    Calls Tryz.prog 12 #[.slice am nm cm] w fun e w' => e = .returned (.int .i64 v) ∧ Below w.heap.size w w' := by
  have H := Lib.hid h
  clear h
  go_enter Tryz.func12, Tryz.ntmps12
  go_wp2_with fail
  refine H.out.mono ?_
  rintro e w1 ⟨rfl, hb⟩
  have HB := Lib.hid hb
  clear hb
  go_wp2_with fail
  go_ret
  exact ⟨by try rfl, HB.out⟩
set_option maxRecDepth 100000 in
set_option maxHeartbeats 16000000 in
theorem asks_law (w : World) (am : Option Addr) (nm cm : Nat) (zm : List MZ) (hm : MadeAt w am nm cm zm) (hok : ∀ q ∈ zm, isI q.1.kind) (a : Option Addr) (n c : Nat) (z : List EZ) (h : EntsAt w a n c z) :
    Calls Tryz.prog 3 #[.slice am nm cm, .slice a n c] w fun e w' => e = .returned (.bool true) ∧ Below w.heap.size w w' := by
  have HWk := Lib.hid (fun w' => works28_any w')
  have HMk : MadeOk zm := ⟨fun q hq => (hm.each q hq).rows.max, fun q hq => hok q hq⟩
  have HCut := Lib.hid (cut28_any w am nm cm zm hm a n c z h)
  have HMO := Lib.hid HMk
  clear hm hok h HMk
  go_enter Tryz.func3, Tryz.ntmps3
  go_wp2_with fail
  refine HCut.out.mono ?_
  rintro e w1 ⟨a', n', c', z', mm, rfl, hmm, hM, hE, hn2, hops, hmn, _, _, hb1⟩
  obtain ⟨Z, hZ⟩ : ∃ Z, zm.take mm = Z := ⟨_, rfl⟩
  rw [hZ] at hM
  have hMkZ : MadeOk Z := ⟨fun q hq => HMO.out.pn q (by rw [← hZ] at hq; exact List.mem_of_mem_take hq), fun q hq => HMO.out.kind q (by rw [← hZ] at hq; exact List.mem_of_mem_take hq)⟩
  obtain ⟨sv, hsv⟩ : ∃ v, serialL Z z' [] (commL (z'.map (·.1.ts)) Z) = v := ⟨_, rfl⟩
  obtain ⟨ov, hov⟩ : ∃ v, orderL Z = v := ⟨_, rfl⟩
  obtain ⟨kv, hkv⟩ : ∃ v, keptL Z (z'.map (·.2)) = v := ⟨_, rfl⟩
  have hZl : Z.length ≤ 40 := by rw [hM.len]; omega
  have HS1 := Lib.hid (show ∀ w', Below w1.heap.size w1 w' → Calls Tryz.prog 9 #[.slice am mm cm, .slice a' n' c'] w' fun e w'' => e = .returned (.int .i64 sv) ∧ Below w'.heap.size w' w'' from fun w' hb => by
    refine lserial_any w' am mm cm a' n' c' sv ?_
    have := serial_any w' a' n' c' z' (hE.on hb) (by omega) (fun q hq => by have := hops q hq; omega) am mm cm Z (hM.on hb) (by omega) hMkZ
      (by have := commL_le (z'.map (·.1.ts)) Z; unfold BoundU; omega) (fun ts => by have := indsP_le ts Z Z.length; unfold BoundC; exact Nat.lt_of_le_of_lt this (by omega))
    rw [hsv] at this
    exact this)
  have HS2 := Lib.hid (show ∀ w', Below w1.heap.size w1 w' → Calls Tryz.prog 10 #[.slice am mm cm, .slice a' n' c'] w' fun e w'' => e = .returned (.int .i64 sv) ∧ Below w'.heap.size w' w'' from fun w' hb => by
    refine serialR28_any w' am mm cm a' n' c' sv ?_
    have := serialR_any w' a' n' c' z' (hE.on hb) (by omega) (fun q hq => by have := hops q hq; omega) am mm cm Z (hM.on hb) (by omega) hMkZ
    rw [hsv] at this
    exact this)
  have HO1 := Lib.hid (show ∀ w', Below w1.heap.size w1 w' → Calls Tryz.prog 11 #[.slice am mm cm] w' fun e w'' => e = .returned (.int .i64 ov) ∧ Below w'.heap.size w' w'' from fun w' hb => by
    refine lorder_any w' am mm cm ov ?_
    have := order_any w' am mm cm Z (hM.on hb) (by omega)
    rw [hov] at this
    exact this)
  have HO2 := Lib.hid (show ∀ w', Below w1.heap.size w1 w' → Calls Tryz.prog 12 #[.slice am mm cm] w' fun e w'' => e = .returned (.int .i64 ov) ∧ Below w'.heap.size w' w'' from fun w' hb => by
    refine orderR28_any w' am mm cm ov ?_
    have := orderR_any w' am mm cm Z (hM.on hb) (by omega)
    rw [hov] at this
    exact this)
  have HK1 := Lib.hid (show ∀ w', Below w1.heap.size w1 w' → Calls Tryz.prog 13 #[.slice am mm cm, .slice a' n' c'] w' fun e w'' => e = .returned (.int .i64 kv) ∧ Below w'.heap.size w' w'' from fun w' hb => by
    have := kept_any w' am mm cm Z (hM.on hb) (by omega) a' n' c' z' (hE.on hb) (by omega) (fun q hq => by have := hops q hq; omega)
    unfold KeptEnd at this
    rw [hkv] at this
    exact this)
  have HK2 := Lib.hid (show ∀ w', Below w1.heap.size w1 w' → Calls Tryz.prog 14 #[.slice am mm cm, .slice a' n' c'] w' fun e w'' => e = .returned (.int .i64 kv) ∧ Below w'.heap.size w' w'' from fun w' hb => by
    have := keptR_any w' am mm cm Z (hM.on hb) (by omega) a' n' c' z' (hE.on hb) (by omega) (fun q hq => by have := hops q hq; omega)
    unfold KeptEnd at this
    rw [hkv] at this
    exact this)
  have HB1 := Lib.hid hb1
  have HR1 := Lib.hid (Below.refl w1.heap.size w1)
  have es : (sv == sv) = true := by simp
  have eo : (ov == ov) = true := by simp
  have ek : (kv == kv) = true := by simp
  clear hM hE hops hZ hMkZ hsv hov hkv hb1 HCut HMO
  have HC := Lib.hid (HS1.out w1 HR1.out)
  go_wp2_with fail
  refine HC.out.mono ?_
  rintro e w2 ⟨rfl, hb⟩
  have HR2 := Lib.hid (HR1.out.trans (hb.mono HR1.out.size))
  clear hb HC
  have HC := Lib.hid (HS2.out w2 HR2.out)
  go_wp2_with fail
  refine HC.out.mono ?_
  rintro e w3 ⟨rfl, hb⟩
  have HR3 := Lib.hid (HR2.out.trans (hb.mono HR2.out.size))
  clear hb HC
  have HC := Lib.hid (HO1.out w3 HR3.out)
  go_wp2_with fail
  refine HC.out.mono ?_
  rintro e w4 ⟨rfl, hb⟩
  have HR4 := Lib.hid (HR3.out.trans (hb.mono HR3.out.size))
  clear hb HC
  have HC := Lib.hid (HO2.out w4 HR4.out)
  go_wp2_with fail
  refine HC.out.mono ?_
  rintro e w5 ⟨rfl, hb⟩
  have HR5 := Lib.hid (HR4.out.trans (hb.mono HR4.out.size))
  clear hb HC
  have HC := Lib.hid (HK1.out w5 HR5.out)
  go_wp2_with fail
  refine HC.out.mono ?_
  rintro e w6 ⟨rfl, hb⟩
  have HR6 := Lib.hid (HR5.out.trans (hb.mono HR5.out.size))
  clear hb HC
  have HC := Lib.hid (HK2.out w6 HR6.out)
  go_wp2_with fail
  refine HC.out.mono ?_
  rintro e w7 ⟨rfl, hb⟩
  have HR7 := Lib.hid (HR6.out.trans (hb.mono HR6.out.size))
  clear hb HC
  have HC := Lib.hid (HWk.out w7)
  go_wp2_with fail
  refine HC.out.mono ?_
  rintro e w8 ⟨rfl, hb⟩
  have HE := Lib.hid (HB1.out.trans ((HR7.out.trans (hb.mono HR7.out.size)).mono HB1.out.size))
  clear hb HC
  go_wp2_with fail
  go_ret
  exact ⟨by try rfl, HE.out⟩
end Go.Proofs.YtecknikehieioaaGreat
