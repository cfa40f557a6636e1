/-
  The walks of package dmsg's stamp, bit, and of the functions of its rules. Condition: sizes that a machine has.
-/
import Derived.Test.YtnijijcbdajodaaRulesW
namespace Go.Proofs.Ytnijijcbdajodaa
set_option linter.unusedVariables false
set_option linter.unusedSimpArgs false
open Go.RowKit

/-- A message's block. -/
def MsgAt (w : World) (b : Nat) (m : Msg) (a : Option Addr) (n c : Nat) : Prop := Blk w b (msgCells m a n c) 26
theorem MsgAt.cells {w : World} {b : Nat} {m : Msg} {a : Option Addr} {n c : Nat} (h : MsgAt w b m a n c) :
    w.cell? ⟨b, 0, none⟩ = some (.int .i64 m.kind) ∧ w.cell? ⟨b, 1, none⟩ = some (.int .u64 m.te) ∧ w.cell? ⟨b, 2, none⟩ = some (.int .u64 m.di) ∧ w.cell? ⟨b, 3, none⟩ = some (.int .u64 m.id) ∧ w.cell? ⟨b, 4, none⟩ = some (.int .u64 m.lsn) ∧ w.cell? ⟨b, 5, none⟩ = some (.int .u64 m.low) ∧
    w.cell? ⟨b, 6, none⟩ = some (.string ⟨m.key.toArray⟩) ∧ w.cell? ⟨b, 7, none⟩ = some (.string ⟨m.hi.toArray⟩) ∧ w.cell? ⟨b, 8, none⟩ = some (.bool m.del) ∧ w.cell? ⟨b, 9, none⟩ = some (.bool m.found) ∧ w.cell? ⟨b, 10, none⟩ = some (.string ⟨m.val.toArray⟩) ∧ w.cell? ⟨b, 11, none⟩ = some (.slice a n c) ∧ w.cell? ⟨b, 12, none⟩ = some (.int .i64 m.err) := by
  unfold MsgAt at h
  refine ⟨?_, ?_, ?_, ?_, ?_, ?_, ?_, ?_, ?_, ?_, ?_, ?_, ?_⟩ <;> (rw [h.cell]; rfl)
def msgObj (m : Msg) (a : Option Addr) (n c : Nat) : Obj := .cells #[.int .i64 m.kind, .int .u64 m.te, .int .u64 m.di, .int .u64 m.id, .int .u64 m.lsn, .int .u64 m.low, .string ⟨m.key.toArray⟩, .string ⟨m.hi.toArray⟩, .bool m.del, .bool m.found, .string ⟨m.val.toArray⟩, .slice a n c, .int .i64 m.err] 26
theorem MsgAt.new (w : World) (m : Msg) (a : Option Addr) (n c : Nat) : MsgAt (w.alloc (msgObj m a n c)) w.heap.size m a n c := Blk.new w (msgCells m a n c) 26

set_option maxHeartbeats 400000 in
theorem mstamp_any (n : Nat) (w : World) :
    Calls Try.prog 29 #[.int .u64 n] w fun e w' => e = .returned (.bool (stampB n)) ∧ w = w' := by
  have hs : stampB n = (decide (1 ≤ n) && decide (n ≤ 1099511627776)) := rfl
  by_cases h1 : 1 ≤ n
  · by_cases h2 : n ≤ 1099511627776
    · have HS := Lib.hid (show stampB n = true by rw [hs]; simp [h1, h2])
      clear hs
      go_enter Try.func29, Try.ntmps29
      go_wp2_with fail
      go_ret
      rw [HS.out]
      refine ⟨ret_bool ?_, rfl⟩
      simp; omega
    · have HS := Lib.hid (show stampB n = false by rw [hs]; simp [h2])
      clear hs
      go_enter Try.func29, Try.ntmps29
      go_wp2_with fail
      go_ret
      rw [HS.out]
      refine ⟨ret_bool ?_, rfl⟩
      simp; omega
  · have HS := Lib.hid (show stampB n = false by rw [hs]; simp [h1])
    clear hs
    go_enter Try.func29, Try.ntmps29
    go_wp2_with fail
    go_ret
    rw [HS.out]
    exact ⟨rfl, rfl⟩

theorem mbit_any (b : Bool) (w : World) :
    Calls Try.prog 22 #[.bool b] w fun e w' => e = .returned (.int .u64 (bitM b)) ∧ w = w' := by
  cases b
  all_goals
    go_enter Try.func22, Try.ntmps22
    go_wp2_with fail
    go_ret
    exact ⟨rfl, rfl⟩

/-- What wiping ends with. -/
def Wiped (m : Msg) (b : Nat) (w : World) (e : Ending) (w' : World) : Prop :=
  e = .returned (.tuple #[]) ∧ Mod [b] w w' ∧ ∃ a n c, MsgAt w' b (wipeM m) a n c ∧ (wipeM m).recs.length = n ∧ n ≤ 9223372036854775807
theorem wipe_none (m : Msg) (hk : m.kind = 1 ∨ m.kind = 7) (b : Nat) (w : World) (a : Option Addr) (n c : Nat) (h : MsgAt w b m a n c) (hl : m.recs.length = n) (hn : n ≤ 9223372036854775807) : Calls Try.prog 84 #[.pointer (some ⟨b, 0, none⟩)] w (Wiped m b w) := by
  have e : wipeM m = m := by
    unfold wipeM
    rcases hk with hk | hk <;> simp [hk]
  have HW : Wiped m b w (.returned (.tuple #[])) w := ⟨rfl, Mod.refl _ _, a, n, c, by rw [e]; exact h, by rw [e]; exact hl, hn⟩
  go_enter Try.func84, Try.ntmps84
  go_wp2_with fail
  go_end0
  exact HW

set_option maxHeartbeats 400000 in
theorem wipe_2 (m : Msg) (hk : m.kind = 2) (b : Nat) (w : World) (a : Option Addr) (n c : Nat) (h : MsgAt w b m a n c) (hl : m.recs.length = n) (hn : n ≤ 9223372036854775807) : Calls Try.prog 52 #[.pointer (some ⟨b, 0, none⟩)] w (Wiped m b w) := by
  obtain ⟨c0, c1, c2, c3, c4, c5, c6, c7, c8, c9, c10, c11, c12⟩ := h.cells
  have hB := (Blk.set (Blk.set (Blk.set (Blk.set h 4 (.int .u64 0)) 6 (.string ⟨#[]⟩)) 8 (.bool false)) 10 (.string ⟨#[]⟩))
  have hM := (((((Mod.refl [b] w).setCell ⟨b, 4, none⟩ (.int .u64 0) (.inl (by simp))).setCell ⟨b, 6, none⟩ (.string ⟨#[]⟩) (.inl (by simp))).setCell ⟨b, 8, none⟩ (.bool false) (.inl (by simp))).setCell ⟨b, 10, none⟩ (.string ⟨#[]⟩) (.inl (by simp)))
  have f4 := Blk.free h 4
  have f6 := Blk.free h 6
  have f8 := Blk.free h 8
  have f10 := Blk.free h 10
  have hw : wipeM m = { m with lsn := 0, key := [], del := false, val := [] } := by unfold wipeM; simp [hk]
  have HW := Lib.hid (show Wiped m b w (.returned (.tuple #[])) ((((w.setCell ⟨b, 4, none⟩ (.int .u64 0)).setCell ⟨b, 6, none⟩ (.string ⟨#[]⟩)).setCell ⟨b, 8, none⟩ (.bool false)).setCell ⟨b, 10, none⟩ (.string ⟨#[]⟩)) from ⟨rfl, hM, a, n, c, by rw [hw]; exact hB, by rw [hw]; exact hl, by omega⟩)
  clear hB hM hl hk h hw
  go_enter Try.func52, Try.ntmps52
  go_wp2_with fail
  go_end0
  exact HW.out

set_option maxHeartbeats 400000 in
theorem wipe_3 (m : Msg) (hk : m.kind = 3) (b : Nat) (w : World) (a : Option Addr) (n c : Nat) (h : MsgAt w b m a n c) (hl : m.recs.length = n) (hn : n ≤ 9223372036854775807) : Calls Try.prog 54 #[.pointer (some ⟨b, 0, none⟩)] w (Wiped m b w) := by
  obtain ⟨c0, c1, c2, c3, c4, c5, c6, c7, c8, c9, c10, c11, c12⟩ := h.cells
  have hB := (Blk.set (Blk.set h 4 (.int .u64 0)) 5 (.int .u64 0))
  have hM := (((Mod.refl [b] w).setCell ⟨b, 4, none⟩ (.int .u64 0) (.inl (by simp))).setCell ⟨b, 5, none⟩ (.int .u64 0) (.inl (by simp)))
  have f4 := Blk.free h 4
  have f5 := Blk.free h 5
  have hw : wipeM m = { m with lsn := 0, low := 0 } := by unfold wipeM; simp [hk]
  have HW := Lib.hid (show Wiped m b w (.returned (.tuple #[])) ((w.setCell ⟨b, 4, none⟩ (.int .u64 0)).setCell ⟨b, 5, none⟩ (.int .u64 0)) from ⟨rfl, hM, a, n, c, by rw [hw]; exact hB, by rw [hw]; exact hl, by omega⟩)
  clear hB hM hl hk h hw
  go_enter Try.func54, Try.ntmps54
  go_wp2_with fail
  go_end0
  exact HW.out

set_option maxHeartbeats 400000 in
theorem wipe_4 (m : Msg) (hk : m.kind = 4) (b : Nat) (w : World) (a : Option Addr) (n c : Nat) (h : MsgAt w b m a n c) (hl : m.recs.length = n) (hn : n ≤ 9223372036854775807) : Calls Try.prog 56 #[.pointer (some ⟨b, 0, none⟩)] w (Wiped m b w) := by
  obtain ⟨c0, c1, c2, c3, c4, c5, c6, c7, c8, c9, c10, c11, c12⟩ := h.cells
  have hB := (Blk.set (Blk.set h 3 (.int .u64 0)) 6 (.string ⟨#[]⟩))
  have hM := (((Mod.refl [b] w).setCell ⟨b, 3, none⟩ (.int .u64 0) (.inl (by simp))).setCell ⟨b, 6, none⟩ (.string ⟨#[]⟩) (.inl (by simp)))
  have f3 := Blk.free h 3
  have f6 := Blk.free h 6
  have hw : wipeM m = { m with id := 0, key := [] } := by unfold wipeM; simp [hk]
  have HW := Lib.hid (show Wiped m b w (.returned (.tuple #[])) ((w.setCell ⟨b, 3, none⟩ (.int .u64 0)).setCell ⟨b, 6, none⟩ (.string ⟨#[]⟩)) from ⟨rfl, hM, a, n, c, by rw [hw]; exact hB, by rw [hw]; exact hl, by omega⟩)
  clear hB hM hl hk h hw
  go_enter Try.func56, Try.ntmps56
  go_wp2_with fail
  go_end0
  exact HW.out

set_option maxHeartbeats 400000 in
theorem wipe_5 (m : Msg) (hk : m.kind = 5) (b : Nat) (w : World) (a : Option Addr) (n c : Nat) (h : MsgAt w b m a n c) (hl : m.recs.length = n) (hn : n ≤ 9223372036854775807) : Calls Try.prog 58 #[.pointer (some ⟨b, 0, none⟩)] w (Wiped m b w) := by
  obtain ⟨c0, c1, c2, c3, c4, c5, c6, c7, c8, c9, c10, c11, c12⟩ := h.cells
  have hB := (Blk.set (Blk.set (Blk.set h 3 (.int .u64 0)) 6 (.string ⟨#[]⟩)) 7 (.string ⟨#[]⟩))
  have hM := ((((Mod.refl [b] w).setCell ⟨b, 3, none⟩ (.int .u64 0) (.inl (by simp))).setCell ⟨b, 6, none⟩ (.string ⟨#[]⟩) (.inl (by simp))).setCell ⟨b, 7, none⟩ (.string ⟨#[]⟩) (.inl (by simp)))
  have f3 := Blk.free h 3
  have f6 := Blk.free h 6
  have f7 := Blk.free h 7
  have hw : wipeM m = { m with id := 0, key := [], hi := [] } := by unfold wipeM; simp [hk]
  have HW := Lib.hid (show Wiped m b w (.returned (.tuple #[])) (((w.setCell ⟨b, 3, none⟩ (.int .u64 0)).setCell ⟨b, 6, none⟩ (.string ⟨#[]⟩)).setCell ⟨b, 7, none⟩ (.string ⟨#[]⟩)) from ⟨rfl, hM, a, n, c, by rw [hw]; exact hB, by rw [hw]; exact hl, by omega⟩)
  clear hB hM hl hk h hw
  go_enter Try.func58, Try.ntmps58
  go_wp2_with fail
  go_end0
  exact HW.out

set_option maxHeartbeats 400000 in
theorem wipe_6 (m : Msg) (hk : m.kind = 6) (b : Nat) (w : World) (a : Option Addr) (n c : Nat) (h : MsgAt w b m a n c) (hl : m.recs.length = n) (hn : n ≤ 9223372036854775807) : Calls Try.prog 60 #[.pointer (some ⟨b, 0, none⟩)] w (Wiped m b w) := by
  obtain ⟨c0, c1, c2, c3, c4, c5, c6, c7, c8, c9, c10, c11, c12⟩ := h.cells
  have hB := (Blk.set (Blk.set h 3 (.int .u64 0)) 4 (.int .u64 0))
  have hM := (((Mod.refl [b] w).setCell ⟨b, 3, none⟩ (.int .u64 0) (.inl (by simp))).setCell ⟨b, 4, none⟩ (.int .u64 0) (.inl (by simp)))
  have f3 := Blk.free h 3
  have f4 := Blk.free h 4
  have hw : wipeM m = { m with id := 0, lsn := 0 } := by unfold wipeM; simp [hk]
  have HW := Lib.hid (show Wiped m b w (.returned (.tuple #[])) ((w.setCell ⟨b, 3, none⟩ (.int .u64 0)).setCell ⟨b, 4, none⟩ (.int .u64 0)) from ⟨rfl, hM, a, n, c, by rw [hw]; exact hB, by rw [hw]; exact hl, by omega⟩)
  clear hB hM hl hk h hw
  go_enter Try.func60, Try.ntmps60
  go_wp2_with fail
  go_end0
  exact HW.out

set_option maxHeartbeats 400000 in
theorem wipe_8 (m : Msg) (hk : m.kind = 8) (b : Nat) (w : World) (a : Option Addr) (n c : Nat) (h : MsgAt w b m a n c) (hl : m.recs.length = n) (hn : n ≤ 9223372036854775807) : Calls Try.prog 62 #[.pointer (some ⟨b, 0, none⟩)] w (Wiped m b w) := by
  obtain ⟨c0, c1, c2, c3, c4, c5, c6, c7, c8, c9, c10, c11, c12⟩ := h.cells
  have hB := (Blk.set h 4 (.int .u64 0))
  have hM := ((Mod.refl [b] w).setCell ⟨b, 4, none⟩ (.int .u64 0) (.inl (by simp)))
  have f4 := Blk.free h 4
  have hw : wipeM m = { m with lsn := 0 } := by unfold wipeM; simp [hk]
  have HW := Lib.hid (show Wiped m b w (.returned (.tuple #[])) (w.setCell ⟨b, 4, none⟩ (.int .u64 0)) from ⟨rfl, hM, a, n, c, by rw [hw]; exact hB, by rw [hw]; exact hl, by omega⟩)
  clear hB hM hl hk h hw
  go_enter Try.func62, Try.ntmps62
  go_wp2_with fail
  go_end0
  exact HW.out

set_option maxHeartbeats 400000 in
theorem wipe_9 (m : Msg) (hk : m.kind = 9) (b : Nat) (w : World) (a : Option Addr) (n c : Nat) (h : MsgAt w b m a n c) (hl : m.recs.length = n) (hn : n ≤ 9223372036854775807) : Calls Try.prog 64 #[.pointer (some ⟨b, 0, none⟩)] w (Wiped m b w) := by
  obtain ⟨c0, c1, c2, c3, c4, c5, c6, c7, c8, c9, c10, c11, c12⟩ := h.cells
  have hB := (Blk.set (Blk.set (Blk.set h 3 (.int .u64 0)) 9 (.bool false)) 10 (.string ⟨#[]⟩))
  have hM := ((((Mod.refl [b] w).setCell ⟨b, 3, none⟩ (.int .u64 0) (.inl (by simp))).setCell ⟨b, 9, none⟩ (.bool false) (.inl (by simp))).setCell ⟨b, 10, none⟩ (.string ⟨#[]⟩) (.inl (by simp)))
  have f3 := Blk.free h 3
  have f9 := Blk.free h 9
  have f10 := Blk.free h 10
  have hw : wipeM m = { m with id := 0, found := false, val := [] } := by unfold wipeM; simp [hk]
  have HW := Lib.hid (show Wiped m b w (.returned (.tuple #[])) (((w.setCell ⟨b, 3, none⟩ (.int .u64 0)).setCell ⟨b, 9, none⟩ (.bool false)).setCell ⟨b, 10, none⟩ (.string ⟨#[]⟩)) from ⟨rfl, hM, a, n, c, by rw [hw]; exact hB, by rw [hw]; exact hl, by omega⟩)
  clear hB hM hl hk h hw
  go_enter Try.func64, Try.ntmps64
  go_wp2_with fail
  go_end0
  exact HW.out

set_option maxHeartbeats 400000 in
theorem wipe_10 (m : Msg) (hk : m.kind = 10) (b : Nat) (w : World) (a : Option Addr) (n c : Nat) (h : MsgAt w b m a n c) (hl : m.recs.length = n) (hn : n ≤ 9223372036854775807) : Calls Try.prog 67 #[.pointer (some ⟨b, 0, none⟩)] w (Wiped m b w) := by
  obtain ⟨c0, c1, c2, c3, c4, c5, c6, c7, c8, c9, c10, c11, c12⟩ := h.cells
  have hB := (Blk.set (Blk.set h 3 (.int .u64 0)) 11 (.slice none 0 0))
  have hM := (((Mod.refl [b] w).setCell ⟨b, 3, none⟩ (.int .u64 0) (.inl (by simp))).setCell ⟨b, 11, none⟩ (.slice none 0 0) (.inl (by simp)))
  have f3 := Blk.free h 3
  have f11 := Blk.free h 11
  have hw : wipeM m = { m with id := 0, recs := [] } := by unfold wipeM; simp [hk]
  have HW := Lib.hid (show Wiped m b w (.returned (.tuple #[])) ((w.setCell ⟨b, 3, none⟩ (.int .u64 0)).setCell ⟨b, 11, none⟩ (.slice none 0 0)) from ⟨rfl, hM, none, 0, 0, by rw [hw]; exact hB, by rw [hw]; rfl, by omega⟩)
  clear hB hM hl hk h hw
  go_enter Try.func67, Try.ntmps67
  go_wp2_with fail
  go_end0
  exact HW.out

set_option maxHeartbeats 400000 in
theorem wipe_11 (m : Msg) (hk : m.kind = 11) (b : Nat) (w : World) (a : Option Addr) (n c : Nat) (h : MsgAt w b m a n c) (hl : m.recs.length = n) (hn : n ≤ 9223372036854775807) : Calls Try.prog 69 #[.pointer (some ⟨b, 0, none⟩)] w (Wiped m b w) := by
  obtain ⟨c0, c1, c2, c3, c4, c5, c6, c7, c8, c9, c10, c11, c12⟩ := h.cells
  have hB := (Blk.set (Blk.set (Blk.set h 3 (.int .u64 0)) 4 (.int .u64 0)) 12 (.int .i64 0))
  have hM := ((((Mod.refl [b] w).setCell ⟨b, 3, none⟩ (.int .u64 0) (.inl (by simp))).setCell ⟨b, 4, none⟩ (.int .u64 0) (.inl (by simp))).setCell ⟨b, 12, none⟩ (.int .i64 0) (.inl (by simp)))
  have f3 := Blk.free h 3
  have f4 := Blk.free h 4
  have f12 := Blk.free h 12
  have hw : wipeM m = { m with id := 0, lsn := 0, err := 0 } := by unfold wipeM; simp [hk]
  have HW := Lib.hid (show Wiped m b w (.returned (.tuple #[])) (((w.setCell ⟨b, 3, none⟩ (.int .u64 0)).setCell ⟨b, 4, none⟩ (.int .u64 0)).setCell ⟨b, 12, none⟩ (.int .i64 0)) from ⟨rfl, hM, a, n, c, by rw [hw]; exact hB, by rw [hw]; exact hl, by omega⟩)
  clear hB hM hl hk h hw
  go_enter Try.func69, Try.ntmps69
  go_wp2_with fail
  go_end0
  exact HW.out

end Go.Proofs.Ytnijijcbdajodaa
