/-
  The walk of package dmsg's Decode. Condition: the text is shorter than 2^47.
-/
import Derived.Test.YtnijijcbdajodaaMsgX
namespace Go.Proofs.Ytnijijcbdajodaa
set_option linter.unusedVariables false
set_option linter.unusedSimpArgs false
open Go.RowKit

set_option maxRecDepth 100000 in
set_option maxHeartbeats 2000000 in
theorem decode_any (s : List UInt8) (w : World) (hs : s.length ≤ 140737488355000) :
    Calls Try.prog 13 #[.string ⟨s.toArray⟩] w (DecodeEnds w (readM s)) := by
  have hmf : ∀ (fn : Fn) (first cap : Array Value) (w : World), (Instr.makeFunc fn first cap).run Try.prog w = .ok (.func fn first cap) w := fun _ _ _ _ => rfl
  go_enter_defers Try.func13, Try.ntmps13
  go_upto_region 1 with fail
  have hE : MsgAt ((w.alloc (.cells #[.int .i64 0, .int .u64 0, .int .u64 0, .int .u64 0, .int .u64 0, .int .u64 0, .string ⟨#[]⟩, .string ⟨#[]⟩, .bool false, .bool false, .string ⟨#[]⟩, .slice none 0 0, .int .i64 0] 26)).alloc (.cells #[.int .i64 0] 24)) w.heap.size zeroMsg none 0 0 := Blk.alloc (Blk.new w (msgCells zeroMsg none 0 0) _) _
  have hX : Blk ((w.alloc (.cells #[.int .i64 0, .int .u64 0, .int .u64 0, .int .u64 0, .int .u64 0, .int .u64 0, .string ⟨#[]⟩, .string ⟨#[]⟩, .bool false, .bool false, .string ⟨#[]⟩, .slice none 0 0, .int .i64 0] 26)).alloc (.cells #[.int .i64 0] 24)) (w.heap.size + 1) [.int .i64 0] 24 := by
    have h := Blk.new (w.alloc (.cells #[.int .i64 0, .int .u64 0, .int .u64 0, .int .u64 0, .int .u64 0, .int .u64 0, .string ⟨#[]⟩, .string ⟨#[]⟩, .bool false, .bool false, .string ⟨#[]⟩, .slice none 0 0, .int .i64 0] 26)) [.int .i64 0] 24
    simpa using h
  have hb := ((Below.refl w.heap.size w).alloc (Nat.le_refl _) (.cells #[.int .i64 0, .int .u64 0, .int .u64 0, .int .u64 0, .int .u64 0, .int .u64 0, .string ⟨#[]⟩, .string ⟨#[]⟩, .bool false, .bool false, .string ⟨#[]⟩, .slice none 0 0, .int .i64 0] 26)).alloc (by simp) (.cells #[.int .i64 0] 24)
  generalize (w.alloc (.cells #[.int .i64 0, .int .u64 0, .int .u64 0, .int .u64 0, .int .u64 0, .int .u64 0, .string ⟨#[]⟩, .string ⟨#[]⟩, .bool false, .bool false, .string ⟨#[]⟩, .slice none 0 0, .int .i64 0] 26)).alloc (.cells #[.int .i64 0] 24) = w0 at *
  have h2 : w.heap.size ≠ w.heap.size + 1 := by omega
  have hlX : w.heap.size ≤ w.heap.size + 1 := by omega
  generalize w.heap.size + 1 = X at *
  go_wp2_with fail
  refine (read_any s _ hs).mono ?_
  rintro e w1 ⟨hb1, hm⟩
  have hE1 : MsgAt w1 w.heap.size zeroMsg none 0 0 := Blk.on hE hb1
  have hX1 := hX.on hb1
  have hb01 := hb.on hb1
  have hltE := hE.lt
  have hltX := hX.lt
  clear hE hX hb hb1
  cases hro : readM s with
  | none =>
    rw [hro] at hm
    simp only at hm
    subst hm
    refine leaves_cons (f := 35) (args := #[.pointer (some ⟨w.heap.size, 0, none⟩), .pointer (some ⟨X, 0, none⟩)]) (by simp) (by simp [go_sem]) ?_
    refine (decoded_gave w.heap.size X w1 hE1 hX1 h2).mono ?_
    rintro e u' w2 ⟨rfl, rfl, hE2, hX2, hm2⟩
    refine ⟨_, results_cells2 rfl _ rfl rfl hE2 hX2, Mod.fresh hb01 hm2 (by simp; omega), ?_⟩
    rfl
  | some m =>
    rw [hro] at hm
    obtain ⟨a, n, c, rfl, hra, hok, hfar⟩ := hm
    have e0 : w1.cell? ⟨w.heap.size, 0, none⟩ = some (.int .i64 0) := by unfold MsgAt at hE1; rw [hE1.cell]; rfl
    have f0 := Blk.free hE1 0
    have e1 : w1.cell? ⟨w.heap.size, 1, none⟩ = some (.int .u64 0) := by unfold MsgAt at hE1; rw [hE1.cell]; rfl
    have f1 := Blk.free hE1 1
    have e2 : w1.cell? ⟨w.heap.size, 2, none⟩ = some (.int .u64 0) := by unfold MsgAt at hE1; rw [hE1.cell]; rfl
    have f2 := Blk.free hE1 2
    have e3 : w1.cell? ⟨w.heap.size, 3, none⟩ = some (.int .u64 0) := by unfold MsgAt at hE1; rw [hE1.cell]; rfl
    have f3 := Blk.free hE1 3
    have e4 : w1.cell? ⟨w.heap.size, 4, none⟩ = some (.int .u64 0) := by unfold MsgAt at hE1; rw [hE1.cell]; rfl
    have f4 := Blk.free hE1 4
    have e5 : w1.cell? ⟨w.heap.size, 5, none⟩ = some (.int .u64 0) := by unfold MsgAt at hE1; rw [hE1.cell]; rfl
    have f5 := Blk.free hE1 5
    have e6 : w1.cell? ⟨w.heap.size, 6, none⟩ = some (.string ⟨#[]⟩) := by unfold MsgAt at hE1; rw [hE1.cell]; rfl
    have f6 := Blk.free hE1 6
    have e7 : w1.cell? ⟨w.heap.size, 7, none⟩ = some (.string ⟨#[]⟩) := by unfold MsgAt at hE1; rw [hE1.cell]; rfl
    have f7 := Blk.free hE1 7
    have e8 : w1.cell? ⟨w.heap.size, 8, none⟩ = some (.bool false) := by unfold MsgAt at hE1; rw [hE1.cell]; rfl
    have f8 := Blk.free hE1 8
    have e9 : w1.cell? ⟨w.heap.size, 9, none⟩ = some (.bool false) := by unfold MsgAt at hE1; rw [hE1.cell]; rfl
    have f9 := Blk.free hE1 9
    have e10 : w1.cell? ⟨w.heap.size, 10, none⟩ = some (.string ⟨#[]⟩) := by unfold MsgAt at hE1; rw [hE1.cell]; rfl
    have f10 := Blk.free hE1 10
    have e11 : w1.cell? ⟨w.heap.size, 11, none⟩ = some (.slice none 0 0) := by unfold MsgAt at hE1; rw [hE1.cell]; rfl
    have f11 := Blk.free hE1 11
    have e12 : w1.cell? ⟨w.heap.size, 12, none⟩ = some (.int .i64 0) := by unfold MsgAt at hE1; rw [hE1.cell]; rfl
    have f12 := Blk.free hE1 12
    have x0 : w1.cell? ⟨X, 0, none⟩ = some (.int .i64 0) := by rw [hX1.cell]; rfl
    have y0 := hX1.free 0
    have hE2 := Blk.other (Blk.set (Blk.set (Blk.set (Blk.set (Blk.set (Blk.set (Blk.set (Blk.set (Blk.set (Blk.set (Blk.set (Blk.set (Blk.set hE1 0 (.int .i64 m.kind)) 1 (.int .u64 m.te)) 2 (.int .u64 m.di)) 3 (.int .u64 m.id)) 4 (.int .u64 m.lsn)) 5 (.int .u64 m.low)) 6 (.string ⟨m.key.toArray⟩)) 7 (.string ⟨m.hi.toArray⟩)) 8 (.bool m.del)) 9 (.bool m.found)) 10 (.string ⟨m.val.toArray⟩)) 11 (.slice a n c)) 12 (.int .i64 m.err)) ⟨X, 0, none⟩ (.int .i64 0) h2
    have hX2 := Blk.set (((((((((((((hX1.other ⟨w.heap.size, 0, none⟩ (.int .i64 m.kind) (Ne.symm h2)).other ⟨w.heap.size, 1, none⟩ (.int .u64 m.te) (Ne.symm h2)).other ⟨w.heap.size, 2, none⟩ (.int .u64 m.di) (Ne.symm h2)).other ⟨w.heap.size, 3, none⟩ (.int .u64 m.id) (Ne.symm h2)).other ⟨w.heap.size, 4, none⟩ (.int .u64 m.lsn) (Ne.symm h2)).other ⟨w.heap.size, 5, none⟩ (.int .u64 m.low) (Ne.symm h2)).other ⟨w.heap.size, 6, none⟩ (.string ⟨m.key.toArray⟩) (Ne.symm h2)).other ⟨w.heap.size, 7, none⟩ (.string ⟨m.hi.toArray⟩) (Ne.symm h2)).other ⟨w.heap.size, 8, none⟩ (.bool m.del) (Ne.symm h2)).other ⟨w.heap.size, 9, none⟩ (.bool m.found) (Ne.symm h2)).other ⟨w.heap.size, 10, none⟩ (.string ⟨m.val.toArray⟩) (Ne.symm h2)).other ⟨w.heap.size, 11, none⟩ (.slice a n c) (Ne.symm h2)).other ⟨w.heap.size, 12, none⟩ (.int .i64 m.err) (Ne.symm h2)) 0 (.int .i64 0)
    have hM2 := ((((((((((((((Mod.refl [w.heap.size, X] w1).setCell ⟨w.heap.size, 0, none⟩ (.int .i64 m.kind) (.inl (by simp))).setCell ⟨w.heap.size, 1, none⟩ (.int .u64 m.te) (.inl (by simp))).setCell ⟨w.heap.size, 2, none⟩ (.int .u64 m.di) (.inl (by simp))).setCell ⟨w.heap.size, 3, none⟩ (.int .u64 m.id) (.inl (by simp))).setCell ⟨w.heap.size, 4, none⟩ (.int .u64 m.lsn) (.inl (by simp))).setCell ⟨w.heap.size, 5, none⟩ (.int .u64 m.low) (.inl (by simp))).setCell ⟨w.heap.size, 6, none⟩ (.string ⟨m.key.toArray⟩) (.inl (by simp))).setCell ⟨w.heap.size, 7, none⟩ (.string ⟨m.hi.toArray⟩) (.inl (by simp))).setCell ⟨w.heap.size, 8, none⟩ (.bool m.del) (.inl (by simp))).setCell ⟨w.heap.size, 9, none⟩ (.bool m.found) (.inl (by simp))).setCell ⟨w.heap.size, 10, none⟩ (.string ⟨m.val.toArray⟩) (.inl (by simp))).setCell ⟨w.heap.size, 11, none⟩ (.slice a n c) (.inl (by simp))).setCell ⟨w.heap.size, 12, none⟩ (.int .i64 m.err) (.inl (by simp))).setCell ⟨X, 0, none⟩ (.int .i64 0) (.inl (by simp))
    have hold : ∀ g o, a = some ⟨g, o, none⟩ → g ∉ [w.heap.size, X] := fun g o e => by have := hfar g o e; simp; omega
    have HR := Lib.hid hro
    have g2 := Ne.symm h2
    clear hro
    unfold msgV
    go_wp2_with fail
    refine leaves_cons (f := 35) (args := #[.pointer (some ⟨w.heap.size, 0, none⟩), .pointer (some ⟨X, 0, none⟩)]) (by simp) (by simp [go_sem]) ?_
    refine (decoded_idle w.heap.size X _).mono ?_
    rintro e u' w3 ⟨rfl, rfl, rfl⟩
    rw [HR.out]
    exact ⟨_, results_cells2 rfl _ rfl rfl hE2 hX2, Mod.fresh hb01 hM2 (by simp; omega), a, n, c, rfl, hra.mod18 hM2 hold, hok⟩
end Go.Proofs.Ytnijijcbdajodaa
