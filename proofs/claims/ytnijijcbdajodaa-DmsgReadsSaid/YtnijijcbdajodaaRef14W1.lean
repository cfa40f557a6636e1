/-
  The walks of the document's wipe of layer 14. Condition: sizes that a machine has.
-/
import Derived.Test.YtnijijcbdajodaaRef14B
namespace Go.Proofs.Ytnijijcbdajodaa
set_option linter.unusedVariables false
set_option linter.unusedSimpArgs false
open Go.RowKit

set_option maxRecDepth 100000 in
set_option maxHeartbeats 2000000 in
theorem rWipe_one (m : Msg) (hk : m.kind = 1) (a : Option Addr) (n c : Nat) (w : World) (hl : m.recs.length = n) (hn : n ≤ 9223372036854775807) : Calls Try.prog 34 #[msgV m a n c] w (WipedR m w) := by
  have hw : wipeR m = { m with te := 0 } := by unfold wipeR wipeM; simp [hk]
  have HK := Lib.hid hk
  clear hk
  have hB := MsgAt.new w m a n c
  have hb0 := (Below.refl w.heap.size w).alloc (Nat.le_refl _) (msgObj m a n c)
  unfold msgObj at hB hb0
  have hB1 : MsgAt ((w.alloc (.cells #[.int .i64 m.kind, .int .u64 m.te, .int .u64 m.di, .int .u64 m.id, .int .u64 m.lsn, .int .u64 m.low, .string ⟨m.key.toArray⟩, .string ⟨m.hi.toArray⟩, .bool m.del, .bool m.found, .string ⟨m.val.toArray⟩, .slice a n c, .int .i64 m.err] 26)).alloc (.cells #[.int .i64 0, .int .u64 0, .int .u64 0, .int .u64 0, .int .u64 0, .int .u64 0, .string ⟨#[]⟩, .string ⟨#[]⟩, .bool false, .bool false, .string ⟨#[]⟩, .slice none 0 0, .int .i64 0] 26)) w.heap.size m a n c := Blk.alloc hB _
  have hE1 : MsgAt ((w.alloc (.cells #[.int .i64 m.kind, .int .u64 m.te, .int .u64 m.di, .int .u64 m.id, .int .u64 m.lsn, .int .u64 m.low, .string ⟨m.key.toArray⟩, .string ⟨m.hi.toArray⟩, .bool m.del, .bool m.found, .string ⟨m.val.toArray⟩, .slice a n c, .int .i64 m.err] 26)).alloc (.cells #[.int .i64 0, .int .u64 0, .int .u64 0, .int .u64 0, .int .u64 0, .int .u64 0, .string ⟨#[]⟩, .string ⟨#[]⟩, .bool false, .bool false, .string ⟨#[]⟩, .slice none 0 0, .int .i64 0] 26)) (w.heap.size + 1) zeroMsg none 0 0 := by
    have h : MsgAt ((w.alloc (.cells #[.int .i64 m.kind, .int .u64 m.te, .int .u64 m.di, .int .u64 m.id, .int .u64 m.lsn, .int .u64 m.low, .string ⟨m.key.toArray⟩, .string ⟨m.hi.toArray⟩, .bool m.del, .bool m.found, .string ⟨m.val.toArray⟩, .slice a n c, .int .i64 m.err] 26)).alloc (.cells #[.int .i64 0, .int .u64 0, .int .u64 0, .int .u64 0, .int .u64 0, .int .u64 0, .string ⟨#[]⟩, .string ⟨#[]⟩, .bool false, .bool false, .string ⟨#[]⟩, .slice none 0 0, .int .i64 0] 26)) (w.alloc (.cells #[.int .i64 m.kind, .int .u64 m.te, .int .u64 m.di, .int .u64 m.id, .int .u64 m.lsn, .int .u64 m.low, .string ⟨m.key.toArray⟩, .string ⟨m.hi.toArray⟩, .bool m.del, .bool m.found, .string ⟨m.val.toArray⟩, .slice a n c, .int .i64 m.err] 26)).heap.size zeroMsg none 0 0 := Blk.new (w.alloc (.cells #[.int .i64 m.kind, .int .u64 m.te, .int .u64 m.di, .int .u64 m.id, .int .u64 m.lsn, .int .u64 m.low, .string ⟨m.key.toArray⟩, .string ⟨m.hi.toArray⟩, .bool m.del, .bool m.found, .string ⟨m.val.toArray⟩, .slice a n c, .int .i64 m.err] 26)) (msgCells zeroMsg none 0 0) 26
    rw [show (w.alloc (.cells #[.int .i64 m.kind, .int .u64 m.te, .int .u64 m.di, .int .u64 m.id, .int .u64 m.lsn, .int .u64 m.low, .string ⟨m.key.toArray⟩, .string ⟨m.hi.toArray⟩, .bool m.del, .bool m.found, .string ⟨m.val.toArray⟩, .slice a n c, .int .i64 m.err] 26)).heap.size = w.heap.size + 1 by simp] at h
    exact h
  have hb1 := hb0.alloc (by simp) (.cells #[.int .i64 0, .int .u64 0, .int .u64 0, .int .u64 0, .int .u64 0, .int .u64 0, .string ⟨#[]⟩, .string ⟨#[]⟩, .bool false, .bool false, .string ⟨#[]⟩, .slice none 0 0, .int .i64 0] 26)
  unfold msgV
  go_enter Try.func34, Try.ntmps34
  go_upto_region 1 with fail
  generalize (w.alloc (.cells #[.int .i64 m.kind, .int .u64 m.te, .int .u64 m.di, .int .u64 m.id, .int .u64 m.lsn, .int .u64 m.low, .string ⟨m.key.toArray⟩, .string ⟨m.hi.toArray⟩, .bool m.del, .bool m.found, .string ⟨m.val.toArray⟩, .slice a n c, .int .i64 m.err] 26)).alloc (.cells #[.int .i64 0, .int .u64 0, .int .u64 0, .int .u64 0, .int .u64 0, .int .u64 0, .string ⟨#[]⟩, .string ⟨#[]⟩, .bool false, .bool false, .string ⟨#[]⟩, .slice none 0 0, .int .i64 0] 26) = w1 at *
  have hME : w.heap.size ≠ w.heap.size + 1 := by omega
  have hEl : w.heap.size ≤ w.heap.size + 1 := by omega
  have hB1lt := hB1.lt
  generalize w.heap.size + 1 = E at *
  clear hB hb0
  obtain ⟨c0, c1, c2, c3, c4, c5, c6, c7, c8, c9, c10, c11, c12⟩ := hB1.cells
  rw [HK.out] at c0
  have f1 := Blk.free hB1 1
  have hB2 : MsgAt (w1.setCell ⟨w.heap.size, 1, none⟩ (.int .u64 0)) w.heap.size { m with te := 0 } a n c := (Blk.set hB1 1 (.int .u64 0))
  have hE2 : MsgAt (w1.setCell ⟨w.heap.size, 1, none⟩ (.int .u64 0)) E zeroMsg none 0 0 := (Blk.other hE1 ⟨w.heap.size, 1, none⟩ (.int .u64 0) (Ne.symm hME))
  have hb2 := (hb1.setCell (p := ⟨w.heap.size, 1, none⟩) (Nat.le_refl _) (.int .u64 0))
  rw [← hw] at hB2
  have hlw : (wipeR m).recs.length = n := by rw [hw]; exact hl
  clear hB1 hE1 hb1 hl hw
  go_upto_region 36 with fail
  generalize (w1.setCell ⟨w.heap.size, 1, none⟩ (.int .u64 0)) = w2 at *
  clear c0 c1 c2 c3 c4 c5 c6 c7 c8 c9 c10 c11 c12 f1
  obtain ⟨c0, c1, c2, c3, c4, c5, c6, c7, c8, c9, c10, c11, c12⟩ := hB2.cells
  have e0 : w2.cell? ⟨E, 0, none⟩ = some (.int .i64 0) := by unfold MsgAt at hE2; rw [hE2.cell]; rfl
  have z0 := Blk.free hE2 0
  have e1 : w2.cell? ⟨E, 1, none⟩ = some (.int .u64 0) := by unfold MsgAt at hE2; rw [hE2.cell]; rfl
  have z1 := Blk.free hE2 1
  have e2 : w2.cell? ⟨E, 2, none⟩ = some (.int .u64 0) := by unfold MsgAt at hE2; rw [hE2.cell]; rfl
  have z2 := Blk.free hE2 2
  have e3 : w2.cell? ⟨E, 3, none⟩ = some (.int .u64 0) := by unfold MsgAt at hE2; rw [hE2.cell]; rfl
  have z3 := Blk.free hE2 3
  have e4 : w2.cell? ⟨E, 4, none⟩ = some (.int .u64 0) := by unfold MsgAt at hE2; rw [hE2.cell]; rfl
  have z4 := Blk.free hE2 4
  have e5 : w2.cell? ⟨E, 5, none⟩ = some (.int .u64 0) := by unfold MsgAt at hE2; rw [hE2.cell]; rfl
  have z5 := Blk.free hE2 5
  have e6 : w2.cell? ⟨E, 6, none⟩ = some (.string ⟨#[]⟩) := by unfold MsgAt at hE2; rw [hE2.cell]; rfl
  have z6 := Blk.free hE2 6
  have e7 : w2.cell? ⟨E, 7, none⟩ = some (.string ⟨#[]⟩) := by unfold MsgAt at hE2; rw [hE2.cell]; rfl
  have z7 := Blk.free hE2 7
  have e8 : w2.cell? ⟨E, 8, none⟩ = some (.bool false) := by unfold MsgAt at hE2; rw [hE2.cell]; rfl
  have z8 := Blk.free hE2 8
  have e9 : w2.cell? ⟨E, 9, none⟩ = some (.bool false) := by unfold MsgAt at hE2; rw [hE2.cell]; rfl
  have z9 := Blk.free hE2 9
  have e10 : w2.cell? ⟨E, 10, none⟩ = some (.string ⟨#[]⟩) := by unfold MsgAt at hE2; rw [hE2.cell]; rfl
  have z10 := Blk.free hE2 10
  have e11 : w2.cell? ⟨E, 11, none⟩ = some (.slice none 0 0) := by unfold MsgAt at hE2; rw [hE2.cell]; rfl
  have z11 := Blk.free hE2 11
  have e12 : w2.cell? ⟨E, 12, none⟩ = some (.int .i64 0) := by unfold MsgAt at hE2; rw [hE2.cell]; rfl
  have z12 := Blk.free hE2 12
  have hE3 := (Blk.set (Blk.set (Blk.set (Blk.set (Blk.set (Blk.set (Blk.set (Blk.set (Blk.set (Blk.set (Blk.set (Blk.set (Blk.set hE2 0 (.int .i64 (wipeR m).kind)) 1 (.int .u64 (wipeR m).te)) 2 (.int .u64 (wipeR m).di)) 3 (.int .u64 (wipeR m).id)) 4 (.int .u64 (wipeR m).lsn)) 5 (.int .u64 (wipeR m).low)) 6 (.string ⟨(wipeR m).key.toArray⟩)) 7 (.string ⟨(wipeR m).hi.toArray⟩)) 8 (.bool (wipeR m).del)) 9 (.bool (wipeR m).found)) 10 (.string ⟨(wipeR m).val.toArray⟩)) 11 (.slice a n c)) 12 (.int .i64 (wipeR m).err))
  have hb3 := (((((((((((((hb2.setCell (p := ⟨E, 0, none⟩) hEl (.int .i64 (wipeR m).kind)).setCell (p := ⟨E, 1, none⟩) hEl (.int .u64 (wipeR m).te)).setCell (p := ⟨E, 2, none⟩) hEl (.int .u64 (wipeR m).di)).setCell (p := ⟨E, 3, none⟩) hEl (.int .u64 (wipeR m).id)).setCell (p := ⟨E, 4, none⟩) hEl (.int .u64 (wipeR m).lsn)).setCell (p := ⟨E, 5, none⟩) hEl (.int .u64 (wipeR m).low)).setCell (p := ⟨E, 6, none⟩) hEl (.string ⟨(wipeR m).key.toArray⟩)).setCell (p := ⟨E, 7, none⟩) hEl (.string ⟨(wipeR m).hi.toArray⟩)).setCell (p := ⟨E, 8, none⟩) hEl (.bool (wipeR m).del)).setCell (p := ⟨E, 9, none⟩) hEl (.bool (wipeR m).found)).setCell (p := ⟨E, 10, none⟩) hEl (.string ⟨(wipeR m).val.toArray⟩)).setCell (p := ⟨E, 11, none⟩) hEl (.slice a n c)).setCell (p := ⟨E, 12, none⟩) hEl (.int .i64 (wipeR m).err))
  have HW := Lib.hid hlw
  have HM := Lib.hid hME
  clear hlw hME hB2 hb2
  generalize hq : wipeR m = q at *
  have HQ := Lib.hid hq
  clear hq
  go_wp2_with fail
  refine bodyPost_ret (results_msg (m := q) rfl _ rfl hE3) rfl ?_
  unfold WipedR
  rw [HQ.out]
  exact ⟨_, _, _, rfl, HW.out, by omega, hb3⟩

set_option maxRecDepth 100000 in
set_option maxHeartbeats 2000000 in
theorem rWipe_2 (m : Msg) (hk : m.kind = 2) (a : Option Addr) (n c : Nat) (w : World) (hl : m.recs.length = n) (hn : n ≤ 9223372036854775807) : Calls Try.prog 34 #[msgV m a n c] w (WipedR m w) := by
  have hw : wipeR m = { m with te := 0, di := 0, lsn := 0, key := [], del := false, val := [] } := by unfold wipeR wipeM; simp [hk]
  have HK := Lib.hid hk
  clear hk
  have hB := MsgAt.new w m a n c
  have hb0 := (Below.refl w.heap.size w).alloc (Nat.le_refl _) (msgObj m a n c)
  unfold msgObj at hB hb0
  have hB1 : MsgAt ((w.alloc (.cells #[.int .i64 m.kind, .int .u64 m.te, .int .u64 m.di, .int .u64 m.id, .int .u64 m.lsn, .int .u64 m.low, .string ⟨m.key.toArray⟩, .string ⟨m.hi.toArray⟩, .bool m.del, .bool m.found, .string ⟨m.val.toArray⟩, .slice a n c, .int .i64 m.err] 26)).alloc (.cells #[.int .i64 0, .int .u64 0, .int .u64 0, .int .u64 0, .int .u64 0, .int .u64 0, .string ⟨#[]⟩, .string ⟨#[]⟩, .bool false, .bool false, .string ⟨#[]⟩, .slice none 0 0, .int .i64 0] 26)) w.heap.size m a n c := Blk.alloc hB _
  have hE1 : MsgAt ((w.alloc (.cells #[.int .i64 m.kind, .int .u64 m.te, .int .u64 m.di, .int .u64 m.id, .int .u64 m.lsn, .int .u64 m.low, .string ⟨m.key.toArray⟩, .string ⟨m.hi.toArray⟩, .bool m.del, .bool m.found, .string ⟨m.val.toArray⟩, .slice a n c, .int .i64 m.err] 26)).alloc (.cells #[.int .i64 0, .int .u64 0, .int .u64 0, .int .u64 0, .int .u64 0, .int .u64 0, .string ⟨#[]⟩, .string ⟨#[]⟩, .bool false, .bool false, .string ⟨#[]⟩, .slice none 0 0, .int .i64 0] 26)) (w.heap.size + 1) zeroMsg none 0 0 := by
    have h : MsgAt ((w.alloc (.cells #[.int .i64 m.kind, .int .u64 m.te, .int .u64 m.di, .int .u64 m.id, .int .u64 m.lsn, .int .u64 m.low, .string ⟨m.key.toArray⟩, .string ⟨m.hi.toArray⟩, .bool m.del, .bool m.found, .string ⟨m.val.toArray⟩, .slice a n c, .int .i64 m.err] 26)).alloc (.cells #[.int .i64 0, .int .u64 0, .int .u64 0, .int .u64 0, .int .u64 0, .int .u64 0, .string ⟨#[]⟩, .string ⟨#[]⟩, .bool false, .bool false, .string ⟨#[]⟩, .slice none 0 0, .int .i64 0] 26)) (w.alloc (.cells #[.int .i64 m.kind, .int .u64 m.te, .int .u64 m.di, .int .u64 m.id, .int .u64 m.lsn, .int .u64 m.low, .string ⟨m.key.toArray⟩, .string ⟨m.hi.toArray⟩, .bool m.del, .bool m.found, .string ⟨m.val.toArray⟩, .slice a n c, .int .i64 m.err] 26)).heap.size zeroMsg none 0 0 := Blk.new (w.alloc (.cells #[.int .i64 m.kind, .int .u64 m.te, .int .u64 m.di, .int .u64 m.id, .int .u64 m.lsn, .int .u64 m.low, .string ⟨m.key.toArray⟩, .string ⟨m.hi.toArray⟩, .bool m.del, .bool m.found, .string ⟨m.val.toArray⟩, .slice a n c, .int .i64 m.err] 26)) (msgCells zeroMsg none 0 0) 26
    rw [show (w.alloc (.cells #[.int .i64 m.kind, .int .u64 m.te, .int .u64 m.di, .int .u64 m.id, .int .u64 m.lsn, .int .u64 m.low, .string ⟨m.key.toArray⟩, .string ⟨m.hi.toArray⟩, .bool m.del, .bool m.found, .string ⟨m.val.toArray⟩, .slice a n c, .int .i64 m.err] 26)).heap.size = w.heap.size + 1 by simp] at h
    exact h
  have hb1 := hb0.alloc (by simp) (.cells #[.int .i64 0, .int .u64 0, .int .u64 0, .int .u64 0, .int .u64 0, .int .u64 0, .string ⟨#[]⟩, .string ⟨#[]⟩, .bool false, .bool false, .string ⟨#[]⟩, .slice none 0 0, .int .i64 0] 26)
  unfold msgV
  go_enter Try.func34, Try.ntmps34
  go_upto_region 1 with fail
  generalize (w.alloc (.cells #[.int .i64 m.kind, .int .u64 m.te, .int .u64 m.di, .int .u64 m.id, .int .u64 m.lsn, .int .u64 m.low, .string ⟨m.key.toArray⟩, .string ⟨m.hi.toArray⟩, .bool m.del, .bool m.found, .string ⟨m.val.toArray⟩, .slice a n c, .int .i64 m.err] 26)).alloc (.cells #[.int .i64 0, .int .u64 0, .int .u64 0, .int .u64 0, .int .u64 0, .int .u64 0, .string ⟨#[]⟩, .string ⟨#[]⟩, .bool false, .bool false, .string ⟨#[]⟩, .slice none 0 0, .int .i64 0] 26) = w1 at *
  have hME : w.heap.size ≠ w.heap.size + 1 := by omega
  have hEl : w.heap.size ≤ w.heap.size + 1 := by omega
  have hB1lt := hB1.lt
  generalize w.heap.size + 1 = E at *
  clear hB hb0
  obtain ⟨c0, c1, c2, c3, c4, c5, c6, c7, c8, c9, c10, c11, c12⟩ := hB1.cells
  rw [HK.out] at c0
  have f1 := Blk.free hB1 1
  have f2 := Blk.free hB1 2
  have f4 := Blk.free hB1 4
  have f6 := Blk.free hB1 6
  have f8 := Blk.free hB1 8
  have f10 := Blk.free hB1 10
  have hB2 : MsgAt ((((((w1.setCell ⟨w.heap.size, 1, none⟩ (.int .u64 0)).setCell ⟨w.heap.size, 2, none⟩ (.int .u64 0)).setCell ⟨w.heap.size, 4, none⟩ (.int .u64 0)).setCell ⟨w.heap.size, 6, none⟩ (.string ⟨#[]⟩)).setCell ⟨w.heap.size, 8, none⟩ (.bool false)).setCell ⟨w.heap.size, 10, none⟩ (.string ⟨#[]⟩)) w.heap.size { m with te := 0, di := 0, lsn := 0, key := [], del := false, val := [] } a n c := (Blk.set (Blk.set (Blk.set (Blk.set (Blk.set (Blk.set hB1 1 (.int .u64 0)) 2 (.int .u64 0)) 4 (.int .u64 0)) 6 (.string ⟨#[]⟩)) 8 (.bool false)) 10 (.string ⟨#[]⟩))
  have hE2 : MsgAt ((((((w1.setCell ⟨w.heap.size, 1, none⟩ (.int .u64 0)).setCell ⟨w.heap.size, 2, none⟩ (.int .u64 0)).setCell ⟨w.heap.size, 4, none⟩ (.int .u64 0)).setCell ⟨w.heap.size, 6, none⟩ (.string ⟨#[]⟩)).setCell ⟨w.heap.size, 8, none⟩ (.bool false)).setCell ⟨w.heap.size, 10, none⟩ (.string ⟨#[]⟩)) E zeroMsg none 0 0 := (Blk.other (Blk.other (Blk.other (Blk.other (Blk.other (Blk.other hE1 ⟨w.heap.size, 1, none⟩ (.int .u64 0) (Ne.symm hME)) ⟨w.heap.size, 2, none⟩ (.int .u64 0) (Ne.symm hME)) ⟨w.heap.size, 4, none⟩ (.int .u64 0) (Ne.symm hME)) ⟨w.heap.size, 6, none⟩ (.string ⟨#[]⟩) (Ne.symm hME)) ⟨w.heap.size, 8, none⟩ (.bool false) (Ne.symm hME)) ⟨w.heap.size, 10, none⟩ (.string ⟨#[]⟩) (Ne.symm hME))
  have hb2 := ((((((hb1.setCell (p := ⟨w.heap.size, 1, none⟩) (Nat.le_refl _) (.int .u64 0)).setCell (p := ⟨w.heap.size, 2, none⟩) (Nat.le_refl _) (.int .u64 0)).setCell (p := ⟨w.heap.size, 4, none⟩) (Nat.le_refl _) (.int .u64 0)).setCell (p := ⟨w.heap.size, 6, none⟩) (Nat.le_refl _) (.string ⟨#[]⟩)).setCell (p := ⟨w.heap.size, 8, none⟩) (Nat.le_refl _) (.bool false)).setCell (p := ⟨w.heap.size, 10, none⟩) (Nat.le_refl _) (.string ⟨#[]⟩))
  rw [← hw] at hB2
  have hlw : (wipeR m).recs.length = n := by rw [hw]; exact hl
  clear hB1 hE1 hb1 hl hw
  go_upto_region 36 with fail
  generalize ((((((w1.setCell ⟨w.heap.size, 1, none⟩ (.int .u64 0)).setCell ⟨w.heap.size, 2, none⟩ (.int .u64 0)).setCell ⟨w.heap.size, 4, none⟩ (.int .u64 0)).setCell ⟨w.heap.size, 6, none⟩ (.string ⟨#[]⟩)).setCell ⟨w.heap.size, 8, none⟩ (.bool false)).setCell ⟨w.heap.size, 10, none⟩ (.string ⟨#[]⟩)) = w2 at *
  clear c0 c1 c2 c3 c4 c5 c6 c7 c8 c9 c10 c11 c12 f1 f2 f4 f6 f8 f10
  obtain ⟨c0, c1, c2, c3, c4, c5, c6, c7, c8, c9, c10, c11, c12⟩ := hB2.cells
  have e0 : w2.cell? ⟨E, 0, none⟩ = some (.int .i64 0) := by unfold MsgAt at hE2; rw [hE2.cell]; rfl
  have z0 := Blk.free hE2 0
  have e1 : w2.cell? ⟨E, 1, none⟩ = some (.int .u64 0) := by unfold MsgAt at hE2; rw [hE2.cell]; rfl
  have z1 := Blk.free hE2 1
  have e2 : w2.cell? ⟨E, 2, none⟩ = some (.int .u64 0) := by unfold MsgAt at hE2; rw [hE2.cell]; rfl
  have z2 := Blk.free hE2 2
  have e3 : w2.cell? ⟨E, 3, none⟩ = some (.int .u64 0) := by unfold MsgAt at hE2; rw [hE2.cell]; rfl
  have z3 := Blk.free hE2 3
  have e4 : w2.cell? ⟨E, 4, none⟩ = some (.int .u64 0) := by unfold MsgAt at hE2; rw [hE2.cell]; rfl
  have z4 := Blk.free hE2 4
  have e5 : w2.cell? ⟨E, 5, none⟩ = some (.int .u64 0) := by unfold MsgAt at hE2; rw [hE2.cell]; rfl
  have z5 := Blk.free hE2 5
  have e6 : w2.cell? ⟨E, 6, none⟩ = some (.string ⟨#[]⟩) := by unfold MsgAt at hE2; rw [hE2.cell]; rfl
  have z6 := Blk.free hE2 6
  have e7 : w2.cell? ⟨E, 7, none⟩ = some (.string ⟨#[]⟩) := by unfold MsgAt at hE2; rw [hE2.cell]; rfl
  have z7 := Blk.free hE2 7
  have e8 : w2.cell? ⟨E, 8, none⟩ = some (.bool false) := by unfold MsgAt at hE2; rw [hE2.cell]; rfl
  have z8 := Blk.free hE2 8
  have e9 : w2.cell? ⟨E, 9, none⟩ = some (.bool false) := by unfold MsgAt at hE2; rw [hE2.cell]; rfl
  have z9 := Blk.free hE2 9
  have e10 : w2.cell? ⟨E, 10, none⟩ = some (.string ⟨#[]⟩) := by unfold MsgAt at hE2; rw [hE2.cell]; rfl
  have z10 := Blk.free hE2 10
  have e11 : w2.cell? ⟨E, 11, none⟩ = some (.slice none 0 0) := by unfold MsgAt at hE2; rw [hE2.cell]; rfl
  have z11 := Blk.free hE2 11
  have e12 : w2.cell? ⟨E, 12, none⟩ = some (.int .i64 0) := by unfold MsgAt at hE2; rw [hE2.cell]; rfl
  have z12 := Blk.free hE2 12
  have hE3 := (Blk.set (Blk.set (Blk.set (Blk.set (Blk.set (Blk.set (Blk.set (Blk.set (Blk.set (Blk.set (Blk.set (Blk.set (Blk.set hE2 0 (.int .i64 (wipeR m).kind)) 1 (.int .u64 (wipeR m).te)) 2 (.int .u64 (wipeR m).di)) 3 (.int .u64 (wipeR m).id)) 4 (.int .u64 (wipeR m).lsn)) 5 (.int .u64 (wipeR m).low)) 6 (.string ⟨(wipeR m).key.toArray⟩)) 7 (.string ⟨(wipeR m).hi.toArray⟩)) 8 (.bool (wipeR m).del)) 9 (.bool (wipeR m).found)) 10 (.string ⟨(wipeR m).val.toArray⟩)) 11 (.slice a n c)) 12 (.int .i64 (wipeR m).err))
  have hb3 := (((((((((((((hb2.setCell (p := ⟨E, 0, none⟩) hEl (.int .i64 (wipeR m).kind)).setCell (p := ⟨E, 1, none⟩) hEl (.int .u64 (wipeR m).te)).setCell (p := ⟨E, 2, none⟩) hEl (.int .u64 (wipeR m).di)).setCell (p := ⟨E, 3, none⟩) hEl (.int .u64 (wipeR m).id)).setCell (p := ⟨E, 4, none⟩) hEl (.int .u64 (wipeR m).lsn)).setCell (p := ⟨E, 5, none⟩) hEl (.int .u64 (wipeR m).low)).setCell (p := ⟨E, 6, none⟩) hEl (.string ⟨(wipeR m).key.toArray⟩)).setCell (p := ⟨E, 7, none⟩) hEl (.string ⟨(wipeR m).hi.toArray⟩)).setCell (p := ⟨E, 8, none⟩) hEl (.bool (wipeR m).del)).setCell (p := ⟨E, 9, none⟩) hEl (.bool (wipeR m).found)).setCell (p := ⟨E, 10, none⟩) hEl (.string ⟨(wipeR m).val.toArray⟩)).setCell (p := ⟨E, 11, none⟩) hEl (.slice a n c)).setCell (p := ⟨E, 12, none⟩) hEl (.int .i64 (wipeR m).err))
  have HW := Lib.hid hlw
  have HM := Lib.hid hME
  clear hlw hME hB2 hb2
  generalize hq : wipeR m = q at *
  have HQ := Lib.hid hq
  clear hq
  go_wp2_with fail
  refine bodyPost_ret (results_msg (m := q) rfl _ rfl hE3) rfl ?_
  unfold WipedR
  rw [HQ.out]
  exact ⟨_, _, _, rfl, HW.out, by omega, hb3⟩

set_option maxRecDepth 100000 in
set_option maxHeartbeats 2000000 in
theorem rWipe_3 (m : Msg) (hk : m.kind = 3) (a : Option Addr) (n c : Nat) (w : World) (hl : m.recs.length = n) (hn : n ≤ 9223372036854775807) : Calls Try.prog 34 #[msgV m a n c] w (WipedR m w) := by
  have hw : wipeR m = { m with te := 0, di := 0, lsn := 0, low := 0 } := by unfold wipeR wipeM; simp [hk]
  have HK := Lib.hid hk
  clear hk
  have hB := MsgAt.new w m a n c
  have hb0 := (Below.refl w.heap.size w).alloc (Nat.le_refl _) (msgObj m a n c)
  unfold msgObj at hB hb0
  have hB1 : MsgAt ((w.alloc (.cells #[.int .i64 m.kind, .int .u64 m.te, .int .u64 m.di, .int .u64 m.id, .int .u64 m.lsn, .int .u64 m.low, .string ⟨m.key.toArray⟩, .string ⟨m.hi.toArray⟩, .bool m.del, .bool m.found, .string ⟨m.val.toArray⟩, .slice a n c, .int .i64 m.err] 26)).alloc (.cells #[.int .i64 0, .int .u64 0, .int .u64 0, .int .u64 0, .int .u64 0, .int .u64 0, .string ⟨#[]⟩, .string ⟨#[]⟩, .bool false, .bool false, .string ⟨#[]⟩, .slice none 0 0, .int .i64 0] 26)) w.heap.size m a n c := Blk.alloc hB _
  have hE1 : MsgAt ((w.alloc (.cells #[.int .i64 m.kind, .int .u64 m.te, .int .u64 m.di, .int .u64 m.id, .int .u64 m.lsn, .int .u64 m.low, .string ⟨m.key.toArray⟩, .string ⟨m.hi.toArray⟩, .bool m.del, .bool m.found, .string ⟨m.val.toArray⟩, .slice a n c, .int .i64 m.err] 26)).alloc (.cells #[.int .i64 0, .int .u64 0, .int .u64 0, .int .u64 0, .int .u64 0, .int .u64 0, .string ⟨#[]⟩, .string ⟨#[]⟩, .bool false, .bool false, .string ⟨#[]⟩, .slice none 0 0, .int .i64 0] 26)) (w.heap.size + 1) zeroMsg none 0 0 := by
    have h : MsgAt ((w.alloc (.cells #[.int .i64 m.kind, .int .u64 m.te, .int .u64 m.di, .int .u64 m.id, .int .u64 m.lsn, .int .u64 m.low, .string ⟨m.key.toArray⟩, .string ⟨m.hi.toArray⟩, .bool m.del, .bool m.found, .string ⟨m.val.toArray⟩, .slice a n c, .int .i64 m.err] 26)).alloc (.cells #[.int .i64 0, .int .u64 0, .int .u64 0, .int .u64 0, .int .u64 0, .int .u64 0, .string ⟨#[]⟩, .string ⟨#[]⟩, .bool false, .bool false, .string ⟨#[]⟩, .slice none 0 0, .int .i64 0] 26)) (w.alloc (.cells #[.int .i64 m.kind, .int .u64 m.te, .int .u64 m.di, .int .u64 m.id, .int .u64 m.lsn, .int .u64 m.low, .string ⟨m.key.toArray⟩, .string ⟨m.hi.toArray⟩, .bool m.del, .bool m.found, .string ⟨m.val.toArray⟩, .slice a n c, .int .i64 m.err] 26)).heap.size zeroMsg none 0 0 := Blk.new (w.alloc (.cells #[.int .i64 m.kind, .int .u64 m.te, .int .u64 m.di, .int .u64 m.id, .int .u64 m.lsn, .int .u64 m.low, .string ⟨m.key.toArray⟩, .string ⟨m.hi.toArray⟩, .bool m.del, .bool m.found, .string ⟨m.val.toArray⟩, .slice a n c, .int .i64 m.err] 26)) (msgCells zeroMsg none 0 0) 26
    rw [show (w.alloc (.cells #[.int .i64 m.kind, .int .u64 m.te, .int .u64 m.di, .int .u64 m.id, .int .u64 m.lsn, .int .u64 m.low, .string ⟨m.key.toArray⟩, .string ⟨m.hi.toArray⟩, .bool m.del, .bool m.found, .string ⟨m.val.toArray⟩, .slice a n c, .int .i64 m.err] 26)).heap.size = w.heap.size + 1 by simp] at h
    exact h
  have hb1 := hb0.alloc (by simp) (.cells #[.int .i64 0, .int .u64 0, .int .u64 0, .int .u64 0, .int .u64 0, .int .u64 0, .string ⟨#[]⟩, .string ⟨#[]⟩, .bool false, .bool false, .string ⟨#[]⟩, .slice none 0 0, .int .i64 0] 26)
  unfold msgV
  go_enter Try.func34, Try.ntmps34
  go_upto_region 1 with fail
  generalize (w.alloc (.cells #[.int .i64 m.kind, .int .u64 m.te, .int .u64 m.di, .int .u64 m.id, .int .u64 m.lsn, .int .u64 m.low, .string ⟨m.key.toArray⟩, .string ⟨m.hi.toArray⟩, .bool m.del, .bool m.found, .string ⟨m.val.toArray⟩, .slice a n c, .int .i64 m.err] 26)).alloc (.cells #[.int .i64 0, .int .u64 0, .int .u64 0, .int .u64 0, .int .u64 0, .int .u64 0, .string ⟨#[]⟩, .string ⟨#[]⟩, .bool false, .bool false, .string ⟨#[]⟩, .slice none 0 0, .int .i64 0] 26) = w1 at *
  have hME : w.heap.size ≠ w.heap.size + 1 := by omega
  have hEl : w.heap.size ≤ w.heap.size + 1 := by omega
  have hB1lt := hB1.lt
  generalize w.heap.size + 1 = E at *
  clear hB hb0
  obtain ⟨c0, c1, c2, c3, c4, c5, c6, c7, c8, c9, c10, c11, c12⟩ := hB1.cells
  rw [HK.out] at c0
  have f1 := Blk.free hB1 1
  have f2 := Blk.free hB1 2
  have f4 := Blk.free hB1 4
  have f5 := Blk.free hB1 5
  have hB2 : MsgAt ((((w1.setCell ⟨w.heap.size, 1, none⟩ (.int .u64 0)).setCell ⟨w.heap.size, 2, none⟩ (.int .u64 0)).setCell ⟨w.heap.size, 4, none⟩ (.int .u64 0)).setCell ⟨w.heap.size, 5, none⟩ (.int .u64 0)) w.heap.size { m with te := 0, di := 0, lsn := 0, low := 0 } a n c := (Blk.set (Blk.set (Blk.set (Blk.set hB1 1 (.int .u64 0)) 2 (.int .u64 0)) 4 (.int .u64 0)) 5 (.int .u64 0))
  have hE2 : MsgAt ((((w1.setCell ⟨w.heap.size, 1, none⟩ (.int .u64 0)).setCell ⟨w.heap.size, 2, none⟩ (.int .u64 0)).setCell ⟨w.heap.size, 4, none⟩ (.int .u64 0)).setCell ⟨w.heap.size, 5, none⟩ (.int .u64 0)) E zeroMsg none 0 0 := (Blk.other (Blk.other (Blk.other (Blk.other hE1 ⟨w.heap.size, 1, none⟩ (.int .u64 0) (Ne.symm hME)) ⟨w.heap.size, 2, none⟩ (.int .u64 0) (Ne.symm hME)) ⟨w.heap.size, 4, none⟩ (.int .u64 0) (Ne.symm hME)) ⟨w.heap.size, 5, none⟩ (.int .u64 0) (Ne.symm hME))
  have hb2 := ((((hb1.setCell (p := ⟨w.heap.size, 1, none⟩) (Nat.le_refl _) (.int .u64 0)).setCell (p := ⟨w.heap.size, 2, none⟩) (Nat.le_refl _) (.int .u64 0)).setCell (p := ⟨w.heap.size, 4, none⟩) (Nat.le_refl _) (.int .u64 0)).setCell (p := ⟨w.heap.size, 5, none⟩) (Nat.le_refl _) (.int .u64 0))
  rw [← hw] at hB2
  have hlw : (wipeR m).recs.length = n := by rw [hw]; exact hl
  clear hB1 hE1 hb1 hl hw
  go_upto_region 36 with fail
  generalize ((((w1.setCell ⟨w.heap.size, 1, none⟩ (.int .u64 0)).setCell ⟨w.heap.size, 2, none⟩ (.int .u64 0)).setCell ⟨w.heap.size, 4, none⟩ (.int .u64 0)).setCell ⟨w.heap.size, 5, none⟩ (.int .u64 0)) = w2 at *
  clear c0 c1 c2 c3 c4 c5 c6 c7 c8 c9 c10 c11 c12 f1 f2 f4 f5
  obtain ⟨c0, c1, c2, c3, c4, c5, c6, c7, c8, c9, c10, c11, c12⟩ := hB2.cells
  have e0 : w2.cell? ⟨E, 0, none⟩ = some (.int .i64 0) := by unfold MsgAt at hE2; rw [hE2.cell]; rfl
  have z0 := Blk.free hE2 0
  have e1 : w2.cell? ⟨E, 1, none⟩ = some (.int .u64 0) := by unfold MsgAt at hE2; rw [hE2.cell]; rfl
  have z1 := Blk.free hE2 1
  have e2 : w2.cell? ⟨E, 2, none⟩ = some (.int .u64 0) := by unfold MsgAt at hE2; rw [hE2.cell]; rfl
  have z2 := Blk.free hE2 2
  have e3 : w2.cell? ⟨E, 3, none⟩ = some (.int .u64 0) := by unfold MsgAt at hE2; rw [hE2.cell]; rfl
  have z3 := Blk.free hE2 3
  have e4 : w2.cell? ⟨E, 4, none⟩ = some (.int .u64 0) := by unfold MsgAt at hE2; rw [hE2.cell]; rfl
  have z4 := Blk.free hE2 4
  have e5 : w2.cell? ⟨E, 5, none⟩ = some (.int .u64 0) := by unfold MsgAt at hE2; rw [hE2.cell]; rfl
  have z5 := Blk.free hE2 5
  have e6 : w2.cell? ⟨E, 6, none⟩ = some (.string ⟨#[]⟩) := by unfold MsgAt at hE2; rw [hE2.cell]; rfl
  have z6 := Blk.free hE2 6
  have e7 : w2.cell? ⟨E, 7, none⟩ = some (.string ⟨#[]⟩) := by unfold MsgAt at hE2; rw [hE2.cell]; rfl
  have z7 := Blk.free hE2 7
  have e8 : w2.cell? ⟨E, 8, none⟩ = some (.bool false) := by unfold MsgAt at hE2; rw [hE2.cell]; rfl
  have z8 := Blk.free hE2 8
  have e9 : w2.cell? ⟨E, 9, none⟩ = some (.bool false) := by unfold MsgAt at hE2; rw [hE2.cell]; rfl
  have z9 := Blk.free hE2 9
  have e10 : w2.cell? ⟨E, 10, none⟩ = some (.string ⟨#[]⟩) := by unfold MsgAt at hE2; rw [hE2.cell]; rfl
  have z10 := Blk.free hE2 10
  have e11 : w2.cell? ⟨E, 11, none⟩ = some (.slice none 0 0) := by unfold MsgAt at hE2; rw [hE2.cell]; rfl
  have z11 := Blk.free hE2 11
  have e12 : w2.cell? ⟨E, 12, none⟩ = some (.int .i64 0) := by unfold MsgAt at hE2; rw [hE2.cell]; rfl
  have z12 := Blk.free hE2 12
  have hE3 := (Blk.set (Blk.set (Blk.set (Blk.set (Blk.set (Blk.set (Blk.set (Blk.set (Blk.set (Blk.set (Blk.set (Blk.set (Blk.set hE2 0 (.int .i64 (wipeR m).kind)) 1 (.int .u64 (wipeR m).te)) 2 (.int .u64 (wipeR m).di)) 3 (.int .u64 (wipeR m).id)) 4 (.int .u64 (wipeR m).lsn)) 5 (.int .u64 (wipeR m).low)) 6 (.string ⟨(wipeR m).key.toArray⟩)) 7 (.string ⟨(wipeR m).hi.toArray⟩)) 8 (.bool (wipeR m).del)) 9 (.bool (wipeR m).found)) 10 (.string ⟨(wipeR m).val.toArray⟩)) 11 (.slice a n c)) 12 (.int .i64 (wipeR m).err))
  have hb3 := (((((((((((((hb2.setCell (p := ⟨E, 0, none⟩) hEl (.int .i64 (wipeR m).kind)).setCell (p := ⟨E, 1, none⟩) hEl (.int .u64 (wipeR m).te)).setCell (p := ⟨E, 2, none⟩) hEl (.int .u64 (wipeR m).di)).setCell (p := ⟨E, 3, none⟩) hEl (.int .u64 (wipeR m).id)).setCell (p := ⟨E, 4, none⟩) hEl (.int .u64 (wipeR m).lsn)).setCell (p := ⟨E, 5, none⟩) hEl (.int .u64 (wipeR m).low)).setCell (p := ⟨E, 6, none⟩) hEl (.string ⟨(wipeR m).key.toArray⟩)).setCell (p := ⟨E, 7, none⟩) hEl (.string ⟨(wipeR m).hi.toArray⟩)).setCell (p := ⟨E, 8, none⟩) hEl (.bool (wipeR m).del)).setCell (p := ⟨E, 9, none⟩) hEl (.bool (wipeR m).found)).setCell (p := ⟨E, 10, none⟩) hEl (.string ⟨(wipeR m).val.toArray⟩)).setCell (p := ⟨E, 11, none⟩) hEl (.slice a n c)).setCell (p := ⟨E, 12, none⟩) hEl (.int .i64 (wipeR m).err))
  have HW := Lib.hid hlw
  have HM := Lib.hid hME
  clear hlw hME hB2 hb2
  generalize hq : wipeR m = q at *
  have HQ := Lib.hid hq
  clear hq
  go_wp2_with fail
  refine bodyPost_ret (results_msg (m := q) rfl _ rfl hE3) rfl ?_
  unfold WipedR
  rw [HQ.out]
  exact ⟨_, _, _, rfl, HW.out, by omega, hb3⟩

set_option maxRecDepth 100000 in
set_option maxHeartbeats 2000000 in
theorem rWipe_4 (m : Msg) (hk : m.kind = 4) (a : Option Addr) (n c : Nat) (w : World) (hl : m.recs.length = n) (hn : n ≤ 9223372036854775807) : Calls Try.prog 34 #[msgV m a n c] w (WipedR m w) := by
  have hw : wipeR m = { m with te := 0, di := 0, id := 0, key := [] } := by unfold wipeR wipeM; simp [hk]
  have HK := Lib.hid hk
  clear hk
  have hB := MsgAt.new w m a n c
  have hb0 := (Below.refl w.heap.size w).alloc (Nat.le_refl _) (msgObj m a n c)
  unfold msgObj at hB hb0
  have hB1 : MsgAt ((w.alloc (.cells #[.int .i64 m.kind, .int .u64 m.te, .int .u64 m.di, .int .u64 m.id, .int .u64 m.lsn, .int .u64 m.low, .string ⟨m.key.toArray⟩, .string ⟨m.hi.toArray⟩, .bool m.del, .bool m.found, .string ⟨m.val.toArray⟩, .slice a n c, .int .i64 m.err] 26)).alloc (.cells #[.int .i64 0, .int .u64 0, .int .u64 0, .int .u64 0, .int .u64 0, .int .u64 0, .string ⟨#[]⟩, .string ⟨#[]⟩, .bool false, .bool false, .string ⟨#[]⟩, .slice none 0 0, .int .i64 0] 26)) w.heap.size m a n c := Blk.alloc hB _
  have hE1 : MsgAt ((w.alloc (.cells #[.int .i64 m.kind, .int .u64 m.te, .int .u64 m.di, .int .u64 m.id, .int .u64 m.lsn, .int .u64 m.low, .string ⟨m.key.toArray⟩, .string ⟨m.hi.toArray⟩, .bool m.del, .bool m.found, .string ⟨m.val.toArray⟩, .slice a n c, .int .i64 m.err] 26)).alloc (.cells #[.int .i64 0, .int .u64 0, .int .u64 0, .int .u64 0, .int .u64 0, .int .u64 0, .string ⟨#[]⟩, .string ⟨#[]⟩, .bool false, .bool false, .string ⟨#[]⟩, .slice none 0 0, .int .i64 0] 26)) (w.heap.size + 1) zeroMsg none 0 0 := by
    have h : MsgAt ((w.alloc (.cells #[.int .i64 m.kind, .int .u64 m.te, .int .u64 m.di, .int .u64 m.id, .int .u64 m.lsn, .int .u64 m.low, .string ⟨m.key.toArray⟩, .string ⟨m.hi.toArray⟩, .bool m.del, .bool m.found, .string ⟨m.val.toArray⟩, .slice a n c, .int .i64 m.err] 26)).alloc (.cells #[.int .i64 0, .int .u64 0, .int .u64 0, .int .u64 0, .int .u64 0, .int .u64 0, .string ⟨#[]⟩, .string ⟨#[]⟩, .bool false, .bool false, .string ⟨#[]⟩, .slice none 0 0, .int .i64 0] 26)) (w.alloc (.cells #[.int .i64 m.kind, .int .u64 m.te, .int .u64 m.di, .int .u64 m.id, .int .u64 m.lsn, .int .u64 m.low, .string ⟨m.key.toArray⟩, .string ⟨m.hi.toArray⟩, .bool m.del, .bool m.found, .string ⟨m.val.toArray⟩, .slice a n c, .int .i64 m.err] 26)).heap.size zeroMsg none 0 0 := Blk.new (w.alloc (.cells #[.int .i64 m.kind, .int .u64 m.te, .int .u64 m.di, .int .u64 m.id, .int .u64 m.lsn, .int .u64 m.low, .string ⟨m.key.toArray⟩, .string ⟨m.hi.toArray⟩, .bool m.del, .bool m.found, .string ⟨m.val.toArray⟩, .slice a n c, .int .i64 m.err] 26)) (msgCells zeroMsg none 0 0) 26
    rw [show (w.alloc (.cells #[.int .i64 m.kind, .int .u64 m.te, .int .u64 m.di, .int .u64 m.id, .int .u64 m.lsn, .int .u64 m.low, .string ⟨m.key.toArray⟩, .string ⟨m.hi.toArray⟩, .bool m.del, .bool m.found, .string ⟨m.val.toArray⟩, .slice a n c, .int .i64 m.err] 26)).heap.size = w.heap.size + 1 by simp] at h
    exact h
  have hb1 := hb0.alloc (by simp) (.cells #[.int .i64 0, .int .u64 0, .int .u64 0, .int .u64 0, .int .u64 0, .int .u64 0, .string ⟨#[]⟩, .string ⟨#[]⟩, .bool false, .bool false, .string ⟨#[]⟩, .slice none 0 0, .int .i64 0] 26)
  unfold msgV
  go_enter Try.func34, Try.ntmps34
  go_upto_region 1 with fail
  generalize (w.alloc (.cells #[.int .i64 m.kind, .int .u64 m.te, .int .u64 m.di, .int .u64 m.id, .int .u64 m.lsn, .int .u64 m.low, .string ⟨m.key.toArray⟩, .string ⟨m.hi.toArray⟩, .bool m.del, .bool m.found, .string ⟨m.val.toArray⟩, .slice a n c, .int .i64 m.err] 26)).alloc (.cells #[.int .i64 0, .int .u64 0, .int .u64 0, .int .u64 0, .int .u64 0, .int .u64 0, .string ⟨#[]⟩, .string ⟨#[]⟩, .bool false, .bool false, .string ⟨#[]⟩, .slice none 0 0, .int .i64 0] 26) = w1 at *
  have hME : w.heap.size ≠ w.heap.size + 1 := by omega
  have hEl : w.heap.size ≤ w.heap.size + 1 := by omega
  have hB1lt := hB1.lt
  generalize w.heap.size + 1 = E at *
  clear hB hb0
  obtain ⟨c0, c1, c2, c3, c4, c5, c6, c7, c8, c9, c10, c11, c12⟩ := hB1.cells
  rw [HK.out] at c0
  have f1 := Blk.free hB1 1
  have f2 := Blk.free hB1 2
  have f3 := Blk.free hB1 3
  have f6 := Blk.free hB1 6
  have hB2 : MsgAt ((((w1.setCell ⟨w.heap.size, 1, none⟩ (.int .u64 0)).setCell ⟨w.heap.size, 2, none⟩ (.int .u64 0)).setCell ⟨w.heap.size, 3, none⟩ (.int .u64 0)).setCell ⟨w.heap.size, 6, none⟩ (.string ⟨#[]⟩)) w.heap.size { m with te := 0, di := 0, id := 0, key := [] } a n c := (Blk.set (Blk.set (Blk.set (Blk.set hB1 1 (.int .u64 0)) 2 (.int .u64 0)) 3 (.int .u64 0)) 6 (.string ⟨#[]⟩))
  have hE2 : MsgAt ((((w1.setCell ⟨w.heap.size, 1, none⟩ (.int .u64 0)).setCell ⟨w.heap.size, 2, none⟩ (.int .u64 0)).setCell ⟨w.heap.size, 3, none⟩ (.int .u64 0)).setCell ⟨w.heap.size, 6, none⟩ (.string ⟨#[]⟩)) E zeroMsg none 0 0 := (Blk.other (Blk.other (Blk.other (Blk.other hE1 ⟨w.heap.size, 1, none⟩ (.int .u64 0) (Ne.symm hME)) ⟨w.heap.size, 2, none⟩ (.int .u64 0) (Ne.symm hME)) ⟨w.heap.size, 3, none⟩ (.int .u64 0) (Ne.symm hME)) ⟨w.heap.size, 6, none⟩ (.string ⟨#[]⟩) (Ne.symm hME))
  have hb2 := ((((hb1.setCell (p := ⟨w.heap.size, 1, none⟩) (Nat.le_refl _) (.int .u64 0)).setCell (p := ⟨w.heap.size, 2, none⟩) (Nat.le_refl _) (.int .u64 0)).setCell (p := ⟨w.heap.size, 3, none⟩) (Nat.le_refl _) (.int .u64 0)).setCell (p := ⟨w.heap.size, 6, none⟩) (Nat.le_refl _) (.string ⟨#[]⟩))
  rw [← hw] at hB2
  have hlw : (wipeR m).recs.length = n := by rw [hw]; exact hl
  clear hB1 hE1 hb1 hl hw
  go_upto_region 36 with fail
  generalize ((((w1.setCell ⟨w.heap.size, 1, none⟩ (.int .u64 0)).setCell ⟨w.heap.size, 2, none⟩ (.int .u64 0)).setCell ⟨w.heap.size, 3, none⟩ (.int .u64 0)).setCell ⟨w.heap.size, 6, none⟩ (.string ⟨#[]⟩)) = w2 at *
  clear c0 c1 c2 c3 c4 c5 c6 c7 c8 c9 c10 c11 c12 f1 f2 f3 f6
  obtain ⟨c0, c1, c2, c3, c4, c5, c6, c7, c8, c9, c10, c11, c12⟩ := hB2.cells
  have e0 : w2.cell? ⟨E, 0, none⟩ = some (.int .i64 0) := by unfold MsgAt at hE2; rw [hE2.cell]; rfl
  have z0 := Blk.free hE2 0
  have e1 : w2.cell? ⟨E, 1, none⟩ = some (.int .u64 0) := by unfold MsgAt at hE2; rw [hE2.cell]; rfl
  have z1 := Blk.free hE2 1
  have e2 : w2.cell? ⟨E, 2, none⟩ = some (.int .u64 0) := by unfold MsgAt at hE2; rw [hE2.cell]; rfl
  have z2 := Blk.free hE2 2
  have e3 : w2.cell? ⟨E, 3, none⟩ = some (.int .u64 0) := by unfold MsgAt at hE2; rw [hE2.cell]; rfl
  have z3 := Blk.free hE2 3
  have e4 : w2.cell? ⟨E, 4, none⟩ = some (.int .u64 0) := by unfold MsgAt at hE2; rw [hE2.cell]; rfl
  have z4 := Blk.free hE2 4
  have e5 : w2.cell? ⟨E, 5, none⟩ = some (.int .u64 0) := by unfold MsgAt at hE2; rw [hE2.cell]; rfl
  have z5 := Blk.free hE2 5
  have e6 : w2.cell? ⟨E, 6, none⟩ = some (.string ⟨#[]⟩) := by unfold MsgAt at hE2; rw [hE2.cell]; rfl
  have z6 := Blk.free hE2 6
  have e7 : w2.cell? ⟨E, 7, none⟩ = some (.string ⟨#[]⟩) := by unfold MsgAt at hE2; rw [hE2.cell]; rfl
  have z7 := Blk.free hE2 7
  have e8 : w2.cell? ⟨E, 8, none⟩ = some (.bool false) := by unfold MsgAt at hE2; rw [hE2.cell]; rfl
  have z8 := Blk.free hE2 8
  have e9 : w2.cell? ⟨E, 9, none⟩ = some (.bool false) := by unfold MsgAt at hE2; rw [hE2.cell]; rfl
  have z9 := Blk.free hE2 9
  have e10 : w2.cell? ⟨E, 10, none⟩ = some (.string ⟨#[]⟩) := by unfold MsgAt at hE2; rw [hE2.cell]; rfl
  have z10 := Blk.free hE2 10
  have e11 : w2.cell? ⟨E, 11, none⟩ = some (.slice none 0 0) := by unfold MsgAt at hE2; rw [hE2.cell]; rfl
  have z11 := Blk.free hE2 11
  have e12 : w2.cell? ⟨E, 12, none⟩ = some (.int .i64 0) := by unfold MsgAt at hE2; rw [hE2.cell]; rfl
  have z12 := Blk.free hE2 12
  have hE3 := (Blk.set (Blk.set (Blk.set (Blk.set (Blk.set (Blk.set (Blk.set (Blk.set (Blk.set (Blk.set (Blk.set (Blk.set (Blk.set hE2 0 (.int .i64 (wipeR m).kind)) 1 (.int .u64 (wipeR m).te)) 2 (.int .u64 (wipeR m).di)) 3 (.int .u64 (wipeR m).id)) 4 (.int .u64 (wipeR m).lsn)) 5 (.int .u64 (wipeR m).low)) 6 (.string ⟨(wipeR m).key.toArray⟩)) 7 (.string ⟨(wipeR m).hi.toArray⟩)) 8 (.bool (wipeR m).del)) 9 (.bool (wipeR m).found)) 10 (.string ⟨(wipeR m).val.toArray⟩)) 11 (.slice a n c)) 12 (.int .i64 (wipeR m).err))
  have hb3 := (((((((((((((hb2.setCell (p := ⟨E, 0, none⟩) hEl (.int .i64 (wipeR m).kind)).setCell (p := ⟨E, 1, none⟩) hEl (.int .u64 (wipeR m).te)).setCell (p := ⟨E, 2, none⟩) hEl (.int .u64 (wipeR m).di)).setCell (p := ⟨E, 3, none⟩) hEl (.int .u64 (wipeR m).id)).setCell (p := ⟨E, 4, none⟩) hEl (.int .u64 (wipeR m).lsn)).setCell (p := ⟨E, 5, none⟩) hEl (.int .u64 (wipeR m).low)).setCell (p := ⟨E, 6, none⟩) hEl (.string ⟨(wipeR m).key.toArray⟩)).setCell (p := ⟨E, 7, none⟩) hEl (.string ⟨(wipeR m).hi.toArray⟩)).setCell (p := ⟨E, 8, none⟩) hEl (.bool (wipeR m).del)).setCell (p := ⟨E, 9, none⟩) hEl (.bool (wipeR m).found)).setCell (p := ⟨E, 10, none⟩) hEl (.string ⟨(wipeR m).val.toArray⟩)).setCell (p := ⟨E, 11, none⟩) hEl (.slice a n c)).setCell (p := ⟨E, 12, none⟩) hEl (.int .i64 (wipeR m).err))
  have HW := Lib.hid hlw
  have HM := Lib.hid hME
  clear hlw hME hB2 hb2
  generalize hq : wipeR m = q at *
  have HQ := Lib.hid hq
  clear hq
  go_wp2_with fail
  refine bodyPost_ret (results_msg (m := q) rfl _ rfl hE3) rfl ?_
  unfold WipedR
  rw [HQ.out]
  exact ⟨_, _, _, rfl, HW.out, by omega, hb3⟩

set_option maxRecDepth 100000 in
set_option maxHeartbeats 2000000 in
theorem rWipe_5 (m : Msg) (hk : m.kind = 5) (a : Option Addr) (n c : Nat) (w : World) (hl : m.recs.length = n) (hn : n ≤ 9223372036854775807) : Calls Try.prog 34 #[msgV m a n c] w (WipedR m w) := by
  have hw : wipeR m = { m with te := 0, di := 0, id := 0, key := [], hi := [] } := by unfold wipeR wipeM; simp [hk]
  have HK := Lib.hid hk
  clear hk
  have hB := MsgAt.new w m a n c
  have hb0 := (Below.refl w.heap.size w).alloc (Nat.le_refl _) (msgObj m a n c)
  unfold msgObj at hB hb0
  have hB1 : MsgAt ((w.alloc (.cells #[.int .i64 m.kind, .int .u64 m.te, .int .u64 m.di, .int .u64 m.id, .int .u64 m.lsn, .int .u64 m.low, .string ⟨m.key.toArray⟩, .string ⟨m.hi.toArray⟩, .bool m.del, .bool m.found, .string ⟨m.val.toArray⟩, .slice a n c, .int .i64 m.err] 26)).alloc (.cells #[.int .i64 0, .int .u64 0, .int .u64 0, .int .u64 0, .int .u64 0, .int .u64 0, .string ⟨#[]⟩, .string ⟨#[]⟩, .bool false, .bool false, .string ⟨#[]⟩, .slice none 0 0, .int .i64 0] 26)) w.heap.size m a n c := Blk.alloc hB _
  have hE1 : MsgAt ((w.alloc (.cells #[.int .i64 m.kind, .int .u64 m.te, .int .u64 m.di, .int .u64 m.id, .int .u64 m.lsn, .int .u64 m.low, .string ⟨m.key.toArray⟩, .string ⟨m.hi.toArray⟩, .bool m.del, .bool m.found, .string ⟨m.val.toArray⟩, .slice a n c, .int .i64 m.err] 26)).alloc (.cells #[.int .i64 0, .int .u64 0, .int .u64 0, .int .u64 0, .int .u64 0, .int .u64 0, .string ⟨#[]⟩, .string ⟨#[]⟩, .bool false, .bool false, .string ⟨#[]⟩, .slice none 0 0, .int .i64 0] 26)) (w.heap.size + 1) zeroMsg none 0 0 := by
    have h : MsgAt ((w.alloc (.cells #[.int .i64 m.kind, .int .u64 m.te, .int .u64 m.di, .int .u64 m.id, .int .u64 m.lsn, .int .u64 m.low, .string ⟨m.key.toArray⟩, .string ⟨m.hi.toArray⟩, .bool m.del, .bool m.found, .string ⟨m.val.toArray⟩, .slice a n c, .int .i64 m.err] 26)).alloc (.cells #[.int .i64 0, .int .u64 0, .int .u64 0, .int .u64 0, .int .u64 0, .int .u64 0, .string ⟨#[]⟩, .string ⟨#[]⟩, .bool false, .bool false, .string ⟨#[]⟩, .slice none 0 0, .int .i64 0] 26)) (w.alloc (.cells #[.int .i64 m.kind, .int .u64 m.te, .int .u64 m.di, .int .u64 m.id, .int .u64 m.lsn, .int .u64 m.low, .string ⟨m.key.toArray⟩, .string ⟨m.hi.toArray⟩, .bool m.del, .bool m.found, .string ⟨m.val.toArray⟩, .slice a n c, .int .i64 m.err] 26)).heap.size zeroMsg none 0 0 := Blk.new (w.alloc (.cells #[.int .i64 m.kind, .int .u64 m.te, .int .u64 m.di, .int .u64 m.id, .int .u64 m.lsn, .int .u64 m.low, .string ⟨m.key.toArray⟩, .string ⟨m.hi.toArray⟩, .bool m.del, .bool m.found, .string ⟨m.val.toArray⟩, .slice a n c, .int .i64 m.err] 26)) (msgCells zeroMsg none 0 0) 26
    rw [show (w.alloc (.cells #[.int .i64 m.kind, .int .u64 m.te, .int .u64 m.di, .int .u64 m.id, .int .u64 m.lsn, .int .u64 m.low, .string ⟨m.key.toArray⟩, .string ⟨m.hi.toArray⟩, .bool m.del, .bool m.found, .string ⟨m.val.toArray⟩, .slice a n c, .int .i64 m.err] 26)).heap.size = w.heap.size + 1 by simp] at h
    exact h
  have hb1 := hb0.alloc (by simp) (.cells #[.int .i64 0, .int .u64 0, .int .u64 0, .int .u64 0, .int .u64 0, .int .u64 0, .string ⟨#[]⟩, .string ⟨#[]⟩, .bool false, .bool false, .string ⟨#[]⟩, .slice none 0 0, .int .i64 0] 26)
  unfold msgV
  go_enter Try.func34, Try.ntmps34
  go_upto_region 1 with fail
  generalize (w.alloc (.cells #[.int .i64 m.kind, .int .u64 m.te, .int .u64 m.di, .int .u64 m.id, .int .u64 m.lsn, .int .u64 m.low, .string ⟨m.key.toArray⟩, .string ⟨m.hi.toArray⟩, .bool m.del, .bool m.found, .string ⟨m.val.toArray⟩, .slice a n c, .int .i64 m.err] 26)).alloc (.cells #[.int .i64 0, .int .u64 0, .int .u64 0, .int .u64 0, .int .u64 0, .int .u64 0, .string ⟨#[]⟩, .string ⟨#[]⟩, .bool false, .bool false, .string ⟨#[]⟩, .slice none 0 0, .int .i64 0] 26) = w1 at *
  have hME : w.heap.size ≠ w.heap.size + 1 := by omega
  have hEl : w.heap.size ≤ w.heap.size + 1 := by omega
  have hB1lt := hB1.lt
  generalize w.heap.size + 1 = E at *
  clear hB hb0
  obtain ⟨c0, c1, c2, c3, c4, c5, c6, c7, c8, c9, c10, c11, c12⟩ := hB1.cells
  rw [HK.out] at c0
  have f1 := Blk.free hB1 1
  have f2 := Blk.free hB1 2
  have f3 := Blk.free hB1 3
  have f6 := Blk.free hB1 6
  have f7 := Blk.free hB1 7
  have hB2 : MsgAt (((((w1.setCell ⟨w.heap.size, 1, none⟩ (.int .u64 0)).setCell ⟨w.heap.size, 2, none⟩ (.int .u64 0)).setCell ⟨w.heap.size, 3, none⟩ (.int .u64 0)).setCell ⟨w.heap.size, 6, none⟩ (.string ⟨#[]⟩)).setCell ⟨w.heap.size, 7, none⟩ (.string ⟨#[]⟩)) w.heap.size { m with te := 0, di := 0, id := 0, key := [], hi := [] } a n c := (Blk.set (Blk.set (Blk.set (Blk.set (Blk.set hB1 1 (.int .u64 0)) 2 (.int .u64 0)) 3 (.int .u64 0)) 6 (.string ⟨#[]⟩)) 7 (.string ⟨#[]⟩))
  have hE2 : MsgAt (((((w1.setCell ⟨w.heap.size, 1, none⟩ (.int .u64 0)).setCell ⟨w.heap.size, 2, none⟩ (.int .u64 0)).setCell ⟨w.heap.size, 3, none⟩ (.int .u64 0)).setCell ⟨w.heap.size, 6, none⟩ (.string ⟨#[]⟩)).setCell ⟨w.heap.size, 7, none⟩ (.string ⟨#[]⟩)) E zeroMsg none 0 0 := (Blk.other (Blk.other (Blk.other (Blk.other (Blk.other hE1 ⟨w.heap.size, 1, none⟩ (.int .u64 0) (Ne.symm hME)) ⟨w.heap.size, 2, none⟩ (.int .u64 0) (Ne.symm hME)) ⟨w.heap.size, 3, none⟩ (.int .u64 0) (Ne.symm hME)) ⟨w.heap.size, 6, none⟩ (.string ⟨#[]⟩) (Ne.symm hME)) ⟨w.heap.size, 7, none⟩ (.string ⟨#[]⟩) (Ne.symm hME))
  have hb2 := (((((hb1.setCell (p := ⟨w.heap.size, 1, none⟩) (Nat.le_refl _) (.int .u64 0)).setCell (p := ⟨w.heap.size, 2, none⟩) (Nat.le_refl _) (.int .u64 0)).setCell (p := ⟨w.heap.size, 3, none⟩) (Nat.le_refl _) (.int .u64 0)).setCell (p := ⟨w.heap.size, 6, none⟩) (Nat.le_refl _) (.string ⟨#[]⟩)).setCell (p := ⟨w.heap.size, 7, none⟩) (Nat.le_refl _) (.string ⟨#[]⟩))
  rw [← hw] at hB2
  have hlw : (wipeR m).recs.length = n := by rw [hw]; exact hl
  clear hB1 hE1 hb1 hl hw
  go_upto_region 36 with fail
  generalize (((((w1.setCell ⟨w.heap.size, 1, none⟩ (.int .u64 0)).setCell ⟨w.heap.size, 2, none⟩ (.int .u64 0)).setCell ⟨w.heap.size, 3, none⟩ (.int .u64 0)).setCell ⟨w.heap.size, 6, none⟩ (.string ⟨#[]⟩)).setCell ⟨w.heap.size, 7, none⟩ (.string ⟨#[]⟩)) = w2 at *
  clear c0 c1 c2 c3 c4 c5 c6 c7 c8 c9 c10 c11 c12 f1 f2 f3 f6 f7
  obtain ⟨c0, c1, c2, c3, c4, c5, c6, c7, c8, c9, c10, c11, c12⟩ := hB2.cells
  have e0 : w2.cell? ⟨E, 0, none⟩ = some (.int .i64 0) := by unfold MsgAt at hE2; rw [hE2.cell]; rfl
  have z0 := Blk.free hE2 0
  have e1 : w2.cell? ⟨E, 1, none⟩ = some (.int .u64 0) := by unfold MsgAt at hE2; rw [hE2.cell]; rfl
  have z1 := Blk.free hE2 1
  have e2 : w2.cell? ⟨E, 2, none⟩ = some (.int .u64 0) := by unfold MsgAt at hE2; rw [hE2.cell]; rfl
  have z2 := Blk.free hE2 2
  have e3 : w2.cell? ⟨E, 3, none⟩ = some (.int .u64 0) := by unfold MsgAt at hE2; rw [hE2.cell]; rfl
  have z3 := Blk.free hE2 3
  have e4 : w2.cell? ⟨E, 4, none⟩ = some (.int .u64 0) := by unfold MsgAt at hE2; rw [hE2.cell]; rfl
  have z4 := Blk.free hE2 4
  have e5 : w2.cell? ⟨E, 5, none⟩ = some (.int .u64 0) := by unfold MsgAt at hE2; rw [hE2.cell]; rfl
  have z5 := Blk.free hE2 5
  have e6 : w2.cell? ⟨E, 6, none⟩ = some (.string ⟨#[]⟩) := by unfold MsgAt at hE2; rw [hE2.cell]; rfl
  have z6 := Blk.free hE2 6
  have e7 : w2.cell? ⟨E, 7, none⟩ = some (.string ⟨#[]⟩) := by unfold MsgAt at hE2; rw [hE2.cell]; rfl
  have z7 := Blk.free hE2 7
  have e8 : w2.cell? ⟨E, 8, none⟩ = some (.bool false) := by unfold MsgAt at hE2; rw [hE2.cell]; rfl
  have z8 := Blk.free hE2 8
  have e9 : w2.cell? ⟨E, 9, none⟩ = some (.bool false) := by unfold MsgAt at hE2; rw [hE2.cell]; rfl
  have z9 := Blk.free hE2 9
  have e10 : w2.cell? ⟨E, 10, none⟩ = some (.string ⟨#[]⟩) := by unfold MsgAt at hE2; rw [hE2.cell]; rfl
  have z10 := Blk.free hE2 10
  have e11 : w2.cell? ⟨E, 11, none⟩ = some (.slice none 0 0) := by unfold MsgAt at hE2; rw [hE2.cell]; rfl
  have z11 := Blk.free hE2 11
  have e12 : w2.cell? ⟨E, 12, none⟩ = some (.int .i64 0) := by unfold MsgAt at hE2; rw [hE2.cell]; rfl
  have z12 := Blk.free hE2 12
  have hE3 := (Blk.set (Blk.set (Blk.set (Blk.set (Blk.set (Blk.set (Blk.set (Blk.set (Blk.set (Blk.set (Blk.set (Blk.set (Blk.set hE2 0 (.int .i64 (wipeR m).kind)) 1 (.int .u64 (wipeR m).te)) 2 (.int .u64 (wipeR m).di)) 3 (.int .u64 (wipeR m).id)) 4 (.int .u64 (wipeR m).lsn)) 5 (.int .u64 (wipeR m).low)) 6 (.string ⟨(wipeR m).key.toArray⟩)) 7 (.string ⟨(wipeR m).hi.toArray⟩)) 8 (.bool (wipeR m).del)) 9 (.bool (wipeR m).found)) 10 (.string ⟨(wipeR m).val.toArray⟩)) 11 (.slice a n c)) 12 (.int .i64 (wipeR m).err))
  have hb3 := (((((((((((((hb2.setCell (p := ⟨E, 0, none⟩) hEl (.int .i64 (wipeR m).kind)).setCell (p := ⟨E, 1, none⟩) hEl (.int .u64 (wipeR m).te)).setCell (p := ⟨E, 2, none⟩) hEl (.int .u64 (wipeR m).di)).setCell (p := ⟨E, 3, none⟩) hEl (.int .u64 (wipeR m).id)).setCell (p := ⟨E, 4, none⟩) hEl (.int .u64 (wipeR m).lsn)).setCell (p := ⟨E, 5, none⟩) hEl (.int .u64 (wipeR m).low)).setCell (p := ⟨E, 6, none⟩) hEl (.string ⟨(wipeR m).key.toArray⟩)).setCell (p := ⟨E, 7, none⟩) hEl (.string ⟨(wipeR m).hi.toArray⟩)).setCell (p := ⟨E, 8, none⟩) hEl (.bool (wipeR m).del)).setCell (p := ⟨E, 9, none⟩) hEl (.bool (wipeR m).found)).setCell (p := ⟨E, 10, none⟩) hEl (.string ⟨(wipeR m).val.toArray⟩)).setCell (p := ⟨E, 11, none⟩) hEl (.slice a n c)).setCell (p := ⟨E, 12, none⟩) hEl (.int .i64 (wipeR m).err))
  have HW := Lib.hid hlw
  have HM := Lib.hid hME
  clear hlw hME hB2 hb2
  generalize hq : wipeR m = q at *
  have HQ := Lib.hid hq
  clear hq
  go_wp2_with fail
  refine bodyPost_ret (results_msg (m := q) rfl _ rfl hE3) rfl ?_
  unfold WipedR
  rw [HQ.out]
  exact ⟨_, _, _, rfl, HW.out, by omega, hb3⟩

end Go.Proofs.Ytnijijcbdajodaa
