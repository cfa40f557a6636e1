/-
  The law's own calls and entries: call, found, write. No condition.
-/
import Derived.Test.YtffianjbljgnaaaSerial
import Derived.Test.YtffianjbljgnaaaAfter
import Derived.Great.BuildSlice
namespace Go.Proofs.Ytffianjbljgnaaa
set_option linter.unusedVariables false
set_option linter.unusedSimpArgs false
open Go.RowKit Go.Maps

def mkC (ts : Nat) (n kind : Int) (key val : Txt) : Md := ⟨ts, n, kind, ts, key, [], val, true, ts, n, 0, false, [], none, 0, 0, n, n⟩
def mkF (ts : Nat) (n : Int) (key val : Txt) : Md := ⟨ts, n, 1, ts, key, [], [], true, ts, n, 0, true, val, none, 0, 0, n, n⟩
theorem results_made {fn : Func} {p : Tmp} (h : fn.results = #[.cell p 37]) (tmps : Array Value) {w : World} {b : Nat} {m : Md} (hp : tmps.getD p undef = .pointer (some ⟨b, 0, none⟩)) (hE : Blk w b (mdCells m) 37) :
    (results fn tmps).run Try.prog w = .ok (.agg (mdCells m).toArray) w :=
  results_cell_row h tmps w b 37 _ (0, 0) _ hp hE Try.underlying37 rfl (by kernel_rfl)
section
variable {ops : Array Oper} {rest : List Oper} {op : Oper} {a : Act} {w : World} {Q : Exit → Act → World → Prop}
/-- A call's cells, laid over a block of calls. -/
theorem wpList_storeB (hgd : op.guard = none) (x y : Operand) (ho : op.op = .store 37 x y) (g : Nat) (C : List Value) (m : Md) (hb : Blk w g C 37) (hC : C.length = 16) (hx : a.eval x = .pointer (some ⟨g, 0, none⟩)) (hy : a.eval y = .agg (mdCells m).toArray)
    (h : wpList Try.prog ops Q rest (a.put op.dst undef) (w.setRow g (mdCells m).toArray)) : wpList Try.prog ops Q (op :: rest) a w :=
  wpList_store_row hgd 37 x y ho g (mdCells m).toArray hx hy 37 C.toArray hb (by kernel_rfl) (by rw [List.size_toArray, hC]; rfl) (by simp [mdCells, Value.oneCell']) h
end
set_option maxRecDepth 100000 in
set_option maxHeartbeats 2000000 in
theorem callM_any (ts : Nat) (n kind : Int) (key val : Txt) (w : World) :
    Calls Try.prog 22 #[.int .u64 (ts : Nat), .int .i64 n, .int .i64 kind, .string ⟨key.toArray⟩, .string ⟨val.toArray⟩] w fun e w' => e = .returned (.agg (mdCells (mkC ts n kind key val)).toArray) ∧ Below w.heap.size w w' := by
  have HB := Lib.hid ((Below.refl w.heap.size w).alloc (Nat.le_refl _) (.cells (mdCells (mkC ts n kind key val)).toArray 37))
  have HBk := Lib.hid (Blk.new w (mdCells (mkC ts n kind key val)) 37)
  go_enter Try.func22, Try.ntmps22
  go_wp2_with ((with_reducible refine wpList_storeM rfl _ _ rfl _ (mkC ts n kind key val) ?_ ?_ ?_); rfl; rfl)
  exact bodyPost_ret (results_made rfl _ rfl HBk.out) rfl ⟨rfl, HB.out⟩
set_option maxRecDepth 100000 in
set_option maxHeartbeats 4000000 in
theorem foundM_any (ts : Nat) (n : Int) (key val : Txt) (w : World) :
    Calls Try.prog 24 #[.int .u64 (ts : Nat), .int .i64 n, .string ⟨key.toArray⟩, .string ⟨val.toArray⟩] w fun e w' => e = .returned (.agg (mdCells (mkF ts n key val)).toArray) ∧ Below w.heap.size w w' := by
  have hz := Blk.new w [.int .u64 0, .int .i64 0, .int .i64 0, .int .u64 0, .string ⟨#[]⟩, .string ⟨#[]⟩, .string ⟨#[]⟩, .bool false, .int .u64 0, .int .i64 0, .int .i64 0, .bool false, .string ⟨#[]⟩, .slice none 0 0, .int .i64 0, .int .i64 0] 37
  have hb0 := (Below.refl w.heap.size w).alloc (Nat.le_refl _) (.cells [Value.int .u64 0, .int .i64 0, .int .i64 0, .int .u64 0, .string ⟨#[]⟩, .string ⟨#[]⟩, .string ⟨#[]⟩, .bool false, .int .u64 0, .int .i64 0, .int .i64 0, .bool false, .string ⟨#[]⟩, .slice none 0 0, .int .i64 0, .int .i64 0].toArray 37)
  have hC := fun w' => callM_any ts n 1 key [] w'
  have HC := Lib.hid hC
  clear hC
  go_enter Try.func24, Try.ntmps24
  go_wp2_with fail
  refine (HC.out _).mono ?_
  rintro e w1 ⟨rfl, hb1⟩
  have hz1 := hz.on hb1
  have hbw := hb0.trans (hb1.mono hb0.size)
  have HMk := Lib.hid (Blk.new w1 (mdCells (mkC ts n 1 key [])) 37)
  have hbn := (Below.refl w1.heap.size w1).alloc (Nat.le_refl _) (.cells (mdCells (mkC ts n 1 key [])).toArray 37)
  have HZ := Lib.hid (hz1.on hbn)
  have HB := Lib.hid (hbw.trans (hbn.mono hbw.size))
  have hsz := hb1.size
  rw [World.size_alloc] at hsz
  clear hz hb0 hb1 hz1 hbw hbn
  go_upto_region 2 with (first | ((with_reducible refine wpList_storeM rfl _ _ rfl _ (mkC ts n 1 key []) ?_ ?_ ?_); rfl; rfl))
  go_frame
  generalize hw2 : w1.alloc (.cells (mdCells (mkC ts n 1 key [])).toArray 37) = w2 at *
  clear hw2
  have hA := HMk.out
  have hA2 := hA.set 11 (.bool true)
  have hA3 := hA2.set 12 (.string ⟨val.toArray⟩)
  have hm3 : Mod [w1.heap.size] w2 ((w2.setCell ⟨w1.heap.size, 11, none⟩ (.bool true)).setCell ⟨w1.heap.size, 12, none⟩ (.string ⟨val.toArray⟩)) := ((Mod.refl _ _).setCell _ _ (.inl (by simp))).setCell _ _ (.inl (by simp))
  have hl3 : MdCellsAt ((w2.setCell ⟨w1.heap.size, 11, none⟩ (.bool true)).setCell ⟨w1.heap.size, 12, none⟩ (.string ⟨val.toArray⟩)) w1.heap.size 0 (mkF ts n key val) := by
    refine ⟨?_, ?_, ?_, ?_, ?_, ?_, ?_, ?_, ?_, ?_, ?_, ?_, ?_, ?_, ?_, ?_⟩ <;> (rw [hA3.cell]; rfl)
  have hz3 := HZ.out.mod hm3 (by simp; omega)
  have HB3 := Lib.hid (show Below w.heap.size w ((w2.setCell ⟨w1.heap.size, 11, none⟩ (.bool true)).setCell ⟨w1.heap.size, 12, none⟩ (.string ⟨val.toArray⟩)) from HB.out.trans (hm3.below (fun x hx => by simp at hx; omega) HB.out.size))
  have f0 := hA.free 11
  have f1 := hA2.free 12
  have g0 : w2.cell? ⟨w1.heap.size, 11, none⟩ = some (.bool false) := by rw [hA.cell]; rfl
  have g1 : (w2.setCell ⟨w1.heap.size, 11, none⟩ (.bool true)).cell? ⟨w1.heap.size, 12, none⟩ = some (.string ⟨#[]⟩) := by rw [hA2.cell]; rfl
  have HL3 := Lib.hid hl3
  have HZ3 := Lib.hid hz3
  clear hA hA2 hA3 hm3 hl3 hz3
  go_upto_region 4 with fail
  clear f0 f1 g0 g1
  generalize (w2.setCell ⟨w1.heap.size, 11, none⟩ (.bool true)).setCell ⟨w1.heap.size, 12, none⟩ (.string ⟨val.toArray⟩) = w3 at *
  have HE := Lib.hid (setRow_blk HZ3.out (mdCells (mkF ts n key val)))
  have HM := Lib.hid (show Below w.heap.size w (w3.setRow w.heap.size (mdCells (mkF ts n key val)).toArray) from HB3.out.trans ((setRow_mod w3 w.heap.size (mdCells (mkF ts n key val)).toArray).below (fun x hx => by simp at hx; omega) HB3.out.size))
  go_wp2_with (first | ((with_reducible refine wpList_loadM rfl _ rfl _ _ _ HL3.out ?_ ?_); rfl) | ((with_reducible refine wpList_storeB rfl _ _ rfl _ _ (mkF ts n key val) HZ3.out rfl ?_ ?_ ?_); rfl; rfl))
  exact bodyPost_ret (results_made rfl _ rfl HE.out) rfl ⟨rfl, HM.out⟩
theorem info_made0 : ∃ ie z, Try.prog.info? 37 = some ie ∧ ie.zero = some z ∧ ie.size = 16 ∧ z.cells = #[.int .u64 0, .int .i64 0, .int .i64 0, .int .u64 0, .string ⟨#[]⟩, .string ⟨#[]⟩, .string ⟨#[]⟩, .bool false, .int .u64 0, .int .i64 0, .int .i64 0, .bool false, .string ⟨#[]⟩, .slice none 0 0, .int .i64 0, .int .i64 0] := by
  have h : (Try.prog.info? 37).map (fun i => (i.zero, i.size)) = some (some (.agg #[.int .u64 0, .int .i64 0, .int .i64 0, .int .u64 0, .string ⟨#[]⟩, .string ⟨#[]⟩, .string ⟨#[]⟩, .bool false, .int .u64 0, .int .i64 0, .int .i64 0, .bool false, .string ⟨#[]⟩, .slice none 0 0, .int .i64 0, .int .i64 0]), 16) := by kernel_rfl
  obtain ⟨i, hi, hzz⟩ := Option.map_eq_some_iff.1 h
  simp only [Prod.mk.injEq] at hzz
  exact ⟨i, _, hi, hzz.1, hzz.2, rfl⟩
section
variable {ops : Array Oper} {rest : List Oper} {o : Oper} {a : Act} {w : World} {Q : Exit → Act → World → Prop}
/-- A slice of four calls, built. -/
theorem wpList_buildM4 (hg : o.guard = none) (x0 x1 x2 x3 : Operand) (ho : o.op = .buildSlice 24 4 #[(0, x0), (1, x1), (2, x2), (3, x3)]) (m0 m1 m2 m3 : Md)
    (h0 : a.eval x0 = .agg (mdCells m0).toArray) (h1 : a.eval x1 = .agg (mdCells m1).toArray) (h2 : a.eval x2 = .agg (mdCells m2).toArray) (h3 : a.eval x3 = .agg (mdCells m3).toArray)
    (h : wpList Try.prog ops Q rest (a.put o.dst (.slice (some ⟨w.heap.size, 0, none⟩) 4 4)) (w.alloc (.cells (mdsCells [m0, m1, m2, m3]).toArray 37))) : wpList Try.prog ops Q (o :: rest) a w := by
  obtain ⟨ie, z, hie, hz, hs, hzc⟩ := info_made0
  refine wpList_buildSlice hg 24 37 4 _ ho (mdsCells [m0, m1, m2, m3]).toArray ie z Try.underlying24 hie hz (by rw [hs]; decide) (by rw [hs]; decide) ?_ h
  rw [hs, hzc]
  have e : (Array.map (fun x : Nat × Operand => (x.1, a.eval x.2)) #[(0, x0), (1, x1), (2, x2), (3, x3)]).toList = [(0, .agg (mdCells m0).toArray), (1, .agg (mdCells m1).toArray), (2, .agg (mdCells m2).toArray), (3, .agg (mdCells m3).toArray)] := by
    simp [h0, h1, h2, h3]
  refine Eq.trans (congrArg _ e) ?_
  kernel_rfl
end
/-- An append that grows the row: a new one is laid. -/
theorem append_new (t e ty : TypeId) (z : Value) (size bytes : Nat) (ht : Try.prog.underlying t = some (.slice e)) (hinf : (Try.prog.info? e).map (fun i => (i.zero, i.size, i.bytes)) = some (some z, size, bytes)) (hby : bytes ≤ 1000)
    {w : World} {g n cap : Nat} {cells : List Value} (hcl : cells.length = n * size) (hcells : ∀ j v, cells[j]? = some v → w.cell? ⟨g, j, none⟩ = some v) (hl : n ≤ 1000000)
    (a : Addr) (m c : Nat) (news : List Value) (hm : m ≤ 1000000) (hnl : news.length = m * size) (hnews : ∀ j u, news[j]? = some u → w.cell? (a.add j) = some u) (hg : cap < n + m) :
    ∃ c' w', (Builtin.append_ #[t, t] ty #[.slice (some ⟨g, 0, none⟩) n cap, .slice (some a) m c]).run Try.prog w = .ok (.slice (some ⟨w.heap.size, 0, none⟩) (n + m) c') w' ∧ RowsAt w' (some ⟨w.heap.size, 0, none⟩) (n + m) c' size (cells ++ news) ∧ Below w.heap.size w w' := by
  obtain ⟨i, hi, hz0, hz1, hz2⟩ := info_parts hinf
  have hbig : (n + m) * bytes ≤ 2000000 * 1000 := Nat.mul_le_mul (by omega) hby
  have hr := run_append_grow (P := Try.prog) (w := w) t ty e i z ht hi hz0 ⟨g, 0, none⟩ n cap cells (by rw [hz1]; exact hcl) (fun j v hv => by rw [addr_add', Nat.zero_add]; exact hcells j v hv) a m c news (by rw [hz1]; exact hnl) hnews hg (by omega) (by rw [hz2]; exact growslice_fits (by omega) (by omega))
  refine ⟨_, _, hr, ?_, (Below.refl _ _).drew.alloc (Nat.le_refl _) _⟩
  have hb := Blk.new w.drew ((cells ++ news) ++ (Builtin.zeroCells z.cells (grownCap w (n + m) cap e - (n + m))).toList) e
  have e1 : ((cells ++ news) ++ (Builtin.zeroCells z.cells (grownCap w (n + m) cap e - (n + m))).toList).toArray = cells.toArray ++ news.toArray ++ Builtin.zeroCells z.cells (grownCap w (n + m) cap e - (n + m)) := by
    apply Array.ext'
    simp
  rw [e1] at hb
  have hb2 : Blk (w.drew.alloc (.cells (cells.toArray ++ news.toArray ++ Builtin.zeroCells z.cells (grownCap w (n + m) cap e - (n + m))) e)) w.heap.size ((cells ++ news) ++ (Builtin.zeroCells z.cells (grownCap w (n + m) cap e - (n + m))).toList) e := hb
  exact RowsAt.of_blk hb2 (by rw [List.length_append, hcl, hnl, Nat.add_mul]) (grownCap_ge w (n + m) cap e) (by omega)
def mkE (ts : Nat) (key val : Txt) : Entry := ⟨ts, ts, [⟨key, ts, false, val⟩]⟩
theorem results_entry {fn : Func} {p : Tmp} (h : fn.results = #[.cell p 40]) (tmps : Array Value) {w : World} {b : Nat} {e : Ent} (hp : tmps.getD p undef = .pointer (some ⟨b, 0, none⟩)) (hE : Blk w b (entCells e) 40) :
    (results fn tmps).run Try.prog w = .ok (.agg (entCells e).toArray) w :=
  results_cell_row h tmps w b 40 _ (0, 0) _ hp hE Try.underlying40 rfl (by kernel_rfl)
/-- What write ends with. -/
def WriteEnd (x : Entry) (w : World) (e : Ending) (w' : World) : Prop := ∃ (a : Option Addr) (n c : Nat), e = .returned (.agg #[.int .u64 (x.ts : Nat), .int .u64 (x.first : Nat), .slice a n c]) ∧ EntIs w' ⟨x.ts, x.first, a, n, c⟩ x ∧ (∀ g o, a = some ⟨g, o, none⟩ → w.heap.size ≤ g) ∧ Below w.heap.size w w'
set_option maxRecDepth 100000 in
set_option maxHeartbeats 2000000 in
theorem writeE_any (ts : Nat) (key val : Txt) (hts : ts < 18446744073709551616) (hk : key.length ≤ maxLen) (hv : val.length ≤ maxLen) (w : World) :
    Calls Try.prog 21 #[.int .u64 (ts : Nat), .string ⟨key.toArray⟩, .string ⟨val.toArray⟩] w (WriteEnd (mkE ts key val) w) := by
  have hok : (mkE ts key val).ok := ⟨hts, hts, fun r hr => by simp [mkE] at hr; subst hr; exact ⟨hk, hv, hts⟩⟩
  go_enter Try.func21, Try.ntmps21
  go_wp2_with fail
  have hb0 := (Below.refl w.heap.size w).alloc (Nat.le_refl _) (.cells (entCells ⟨ts, ts, some ⟨w.heap.size + 1, 0, none⟩, 1, 1⟩).toArray 40)
  have hE : Blk ((w.alloc (.cells (entCells ⟨ts, ts, some ⟨w.heap.size + 1, 0, none⟩, 1, 1⟩).toArray 40)).alloc (.cells (recCells ⟨key, ts, false, val⟩).toArray 58)) w.heap.size (entCells ⟨ts, ts, some ⟨w.heap.size + 1, 0, none⟩, 1, 1⟩) 40 := (Blk.new w _ _).alloc _
  have hR : Blk ((w.alloc (.cells (entCells ⟨ts, ts, some ⟨w.heap.size + 1, 0, none⟩, 1, 1⟩).toArray 40)).alloc (.cells (recCells ⟨key, ts, false, val⟩).toArray 58)) (w.heap.size + 1) (recCells ⟨key, ts, false, val⟩) 58 := by
    have := Blk.new (w.alloc (.cells (entCells ⟨ts, ts, some ⟨w.heap.size + 1, 0, none⟩, 1, 1⟩).toArray 40)) (recCells ⟨key, ts, false, val⟩) 58
    rw [World.size_alloc] at this
    exact this
  refine bodyPost_ret (results_entry rfl _ rfl hE) rfl ⟨_, _, _, rfl, ⟨rfl, rfl, rfl, ?_, hok⟩, (fun g o e => by cases e; omega), hb0.alloc hb0.size _⟩
  have hR2 : Blk ((w.alloc (.cells (entCells ⟨ts, ts, some ⟨w.heap.size + 1, 0, none⟩, 1, 1⟩).toArray 40)).alloc (.cells (recCells ⟨key, ts, false, val⟩).toArray 58)) (w.heap.size + 1) (recsCells [⟨key, ts, false, val⟩] ++ []) 58 := by simpa [recsCells] using hR
  exact RowsAt.of_blk (n := 1) hR2 rfl (Nat.le_refl _) (by omega)
end Go.Proofs.Ytffianjbljgnaaa
