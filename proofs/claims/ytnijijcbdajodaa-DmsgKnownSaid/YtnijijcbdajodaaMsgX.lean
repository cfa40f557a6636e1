/-
  The walks of package dmsg's Decode and its deferred closure. Condition: the text is shorter than 2^47.
-/
import Derived.Test.YtnijijcbdajodaaMsgI
import Derived.Tactics
import Derived.Tactics2
import Derived.Defers
import Derived.Recover
namespace Go.Proofs.Ytnijijcbdajodaa
set_option linter.unusedVariables false
set_option linter.unusedSimpArgs false
open Go.RowKit

set_option maxHeartbeats 1000000 in
theorem decoded_idle (E X : Nat) (w : World) :
    CallsD Try.prog 35 #[.pointer (some ⟨E, 0, none⟩), .pointer (some ⟨X, 0, none⟩)] .returning w fun e u' w' => e = .returned (.tuple #[]) ∧ u' = .returning ∧ w = w' := by
  refine callsD_of_wpS Try.func35 rfl fun c₀ cs hu => ?_
  apply wpS_seq
  apply wpS_region
  simp [wpOpsS, go_sem, recoverD, hu, Try.ntmps35, Exit.thenS]
  refine wpS_of_wp ?_
  show Code.wp Try.prog _ _ { tmps := #[.pointer (some ⟨E, 0, none⟩), .pointer (some ⟨X, 0, none⟩), .nilIface, undef, undef, .nilIface, undef, undef, undef, undef, undef, undef, undef, undef, undef, undef, undef], defers := [] } w
  go_wp2_with fail
  exact ⟨rfl, _, by cases c₀; simp_all, _, results_none rfl _ _ _, rfl, rfl, rfl⟩

theorem assert_wrong (W : World) (v : Value) : (Instr.typeAssert (.iface 62 v) 20 62 true).run Try.prog W = .ok (.tuple #[v, .bool true]) W := by
  have h := Try.underlying62
  have hu : (underlying 62).run Try.prog W = .ok (.struct #[]) W := by
    simp [underlying, h]
  simp [Instr.typeAssert, Sem.run_bind, hu, Result.andThen]
def zeroMsg : Msg := ⟨0, 0, 0, 0, 0, 0, [], [], false, false, [], [], 0⟩
set_option maxHeartbeats 2000000 in
theorem decoded_gave (E X : Nat) (w : World) (hE : MsgAt w E zeroMsg none 0 0) (hX : Blk w X [.int .i64 0] 24) (h2 : E ≠ X) :
    CallsD Try.prog 35 #[.pointer (some ⟨E, 0, none⟩), .pointer (some ⟨X, 0, none⟩)] (.panicking gaveUp) w fun e u' w' =>
      e = .returned (.tuple #[]) ∧ u' = .panicking [{ v := .iface 62 (.agg #[]), recovered := true }] ∧
      MsgAt w' E zeroMsg none 0 0 ∧ Blk w' X [.int .i64 4] 24 ∧ Mod [E, X] w w' := by
  refine callsD_of_wpS Try.func35 rfl fun c₀ cs hu => ?_
  apply wpS_seq
  apply wpS_region
  simp [gaveUp] at hu
  simp [wpOpsS, go_sem, recoverD, hu, Try.ntmps35, Exit.thenS]
  refine wpS_of_wp ?_
  show Code.wp Try.prog _ _ { tmps := #[.pointer (some ⟨E, 0, none⟩), .pointer (some ⟨X, 0, none⟩), .iface 62 (.agg #[]), undef, undef, .iface 62 (.agg #[]), undef, undef, undef, undef, undef, undef, undef, undef, undef, undef, undef], defers := [] } w
  have hta := assert_wrong w (.agg #[])
  clear hu
  go_upto_region 3 with fail
  have hE1 : MsgAt (w.alloc (.cells #[] 62)) E zeroMsg none 0 0 := Blk.alloc hE _
  have hX1 := hX.alloc (.cells #[] 62)
  have hm1 := (Mod.refl [E, X] w).alloc (.cells #[] 62)
  generalize hF : w.heap.size = F
  generalize w.alloc (.cells #[] 62) = w1 at *
  clear hta hE hX
  have e0 : w1.cell? ⟨E, 0, none⟩ = some (.int .i64 0) := by unfold MsgAt at hE1; rw [hE1.cell]; rfl
  have f0 := Blk.free hE1 0
  have e1 : w1.cell? ⟨E, 1, none⟩ = some (.int .u64 0) := by unfold MsgAt at hE1; rw [hE1.cell]; rfl
  have f1 := Blk.free hE1 1
  have e2 : w1.cell? ⟨E, 2, none⟩ = some (.int .u64 0) := by unfold MsgAt at hE1; rw [hE1.cell]; rfl
  have f2 := Blk.free hE1 2
  have e3 : w1.cell? ⟨E, 3, none⟩ = some (.int .u64 0) := by unfold MsgAt at hE1; rw [hE1.cell]; rfl
  have f3 := Blk.free hE1 3
  have e4 : w1.cell? ⟨E, 4, none⟩ = some (.int .u64 0) := by unfold MsgAt at hE1; rw [hE1.cell]; rfl
  have f4 := Blk.free hE1 4
  have e5 : w1.cell? ⟨E, 5, none⟩ = some (.int .u64 0) := by unfold MsgAt at hE1; rw [hE1.cell]; rfl
  have f5 := Blk.free hE1 5
  have e6 : w1.cell? ⟨E, 6, none⟩ = some (.string ⟨#[]⟩) := by unfold MsgAt at hE1; rw [hE1.cell]; rfl
  have f6 := Blk.free hE1 6
  have e7 : w1.cell? ⟨E, 7, none⟩ = some (.string ⟨#[]⟩) := by unfold MsgAt at hE1; rw [hE1.cell]; rfl
  have f7 := Blk.free hE1 7
  have e8 : w1.cell? ⟨E, 8, none⟩ = some (.bool false) := by unfold MsgAt at hE1; rw [hE1.cell]; rfl
  have f8 := Blk.free hE1 8
  have e9 : w1.cell? ⟨E, 9, none⟩ = some (.bool false) := by unfold MsgAt at hE1; rw [hE1.cell]; rfl
  have f9 := Blk.free hE1 9
  have e10 : w1.cell? ⟨E, 10, none⟩ = some (.string ⟨#[]⟩) := by unfold MsgAt at hE1; rw [hE1.cell]; rfl
  have f10 := Blk.free hE1 10
  have e11 : w1.cell? ⟨E, 11, none⟩ = some (.slice none 0 0) := by unfold MsgAt at hE1; rw [hE1.cell]; rfl
  have f11 := Blk.free hE1 11
  have e12 : w1.cell? ⟨E, 12, none⟩ = some (.int .i64 0) := by unfold MsgAt at hE1; rw [hE1.cell]; rfl
  have f12 := Blk.free hE1 12
  have x0 : w1.cell? ⟨X, 0, none⟩ = some (.int .i64 0) := by rw [hX1.cell]; rfl
  have y0 := hX1.free 0
  have hE2 := Blk.other (Blk.set (Blk.set (Blk.set (Blk.set (Blk.set (Blk.set (Blk.set (Blk.set (Blk.set (Blk.set (Blk.set (Blk.set (Blk.set hE1 0 (.int .i64 0)) 1 (.int .u64 0)) 2 (.int .u64 0)) 3 (.int .u64 0)) 4 (.int .u64 0)) 5 (.int .u64 0)) 6 (.string ⟨#[]⟩)) 7 (.string ⟨#[]⟩)) 8 (.bool false)) 9 (.bool false)) 10 (.string ⟨#[]⟩)) 11 (.slice none 0 0)) 12 (.int .i64 0)) ⟨X, 0, none⟩ (.int .i64 4) h2
  have hX2 := Blk.set (((((((((((((hX1.other ⟨E, 0, none⟩ (.int .i64 0) (Ne.symm h2)).other ⟨E, 1, none⟩ (.int .u64 0) (Ne.symm h2)).other ⟨E, 2, none⟩ (.int .u64 0) (Ne.symm h2)).other ⟨E, 3, none⟩ (.int .u64 0) (Ne.symm h2)).other ⟨E, 4, none⟩ (.int .u64 0) (Ne.symm h2)).other ⟨E, 5, none⟩ (.int .u64 0) (Ne.symm h2)).other ⟨E, 6, none⟩ (.string ⟨#[]⟩) (Ne.symm h2)).other ⟨E, 7, none⟩ (.string ⟨#[]⟩) (Ne.symm h2)).other ⟨E, 8, none⟩ (.bool false) (Ne.symm h2)).other ⟨E, 9, none⟩ (.bool false) (Ne.symm h2)).other ⟨E, 10, none⟩ (.string ⟨#[]⟩) (Ne.symm h2)).other ⟨E, 11, none⟩ (.slice none 0 0) (Ne.symm h2)).other ⟨E, 12, none⟩ (.int .i64 0) (Ne.symm h2)) 0 (.int .i64 4)
  have hM2 := (((((((((((((hm1.setCell ⟨E, 0, none⟩ (.int .i64 0) (.inl (by simp))).setCell ⟨E, 1, none⟩ (.int .u64 0) (.inl (by simp))).setCell ⟨E, 2, none⟩ (.int .u64 0) (.inl (by simp))).setCell ⟨E, 3, none⟩ (.int .u64 0) (.inl (by simp))).setCell ⟨E, 4, none⟩ (.int .u64 0) (.inl (by simp))).setCell ⟨E, 5, none⟩ (.int .u64 0) (.inl (by simp))).setCell ⟨E, 6, none⟩ (.string ⟨#[]⟩) (.inl (by simp))).setCell ⟨E, 7, none⟩ (.string ⟨#[]⟩) (.inl (by simp))).setCell ⟨E, 8, none⟩ (.bool false) (.inl (by simp))).setCell ⟨E, 9, none⟩ (.bool false) (.inl (by simp))).setCell ⟨E, 10, none⟩ (.string ⟨#[]⟩) (.inl (by simp))).setCell ⟨E, 11, none⟩ (.slice none 0 0) (.inl (by simp))).setCell ⟨E, 12, none⟩ (.int .i64 0) (.inl (by simp))).setCell ⟨X, 0, none⟩ (.int .i64 4) (.inl (by simp))
  go_wp2_with fail
  exact ⟨rfl, _, rfl, _, results_none rfl _ _ _, rfl, rfl, hE2, hX2, hM2⟩

/-- What decoding ends with. -/
def DecodeEnds (w : World) (o : Option Msg) (e : Ending) (w' : World) : Prop :=
  Below w.heap.size w w' ∧ match o with
    | none => e = .returned (.tuple #[msgV zeroMsg none 0 0, .int .i64 4])
    | some m => ∃ a n c, e = .returned (.tuple #[msgV m a n c, .int .i64 0]) ∧ RecsAt w' a n c m.recs ∧ m.ok

theorem results_cells2 {fn : Func} {p r : Tmp} (h : fn.results = #[.cell p 26, .cell r 24]) (tmps : Array Value) {w : World} {E X n c : Nat} {m : Msg} {a : Option Addr} {x : Int} (hp : tmps.getD p undef = .pointer (some ⟨E, 0, none⟩)) (hr : tmps.getD r undef = .pointer (some ⟨X, 0, none⟩))
    (hE : MsgAt w E m a n c) (hX : Blk w X [.int .i64 x] 24) : (results fn tmps).run Try.prog w = .ok (.tuple #[msgV m a n c, .int .i64 x]) w := by
  have e4 : w.cell? ⟨X, 0, none⟩ = some (.int .i64 x) := by rw [hX.cell]; rfl
  have hp' : tmps[p]?.getD undef = .pointer (some ⟨E, 0, none⟩) := by simpa using hp
  have hr' : tmps[r]?.getD undef = .pointer (some ⟨X, 0, none⟩) := by simpa using hr
  obtain ⟨c0, c1, c2, c3, c4, c5, c6, c7, c8, c9, c10, c11, c12⟩ := hE.cells
  unfold msgV
  simp [results, h, hp', hr', go_sem, c0, c1, c2, c3, c4, c5, c6, c7, c8, c9, c10, c11, c12, e4]
end Go.Proofs.Ytnijijcbdajodaa
