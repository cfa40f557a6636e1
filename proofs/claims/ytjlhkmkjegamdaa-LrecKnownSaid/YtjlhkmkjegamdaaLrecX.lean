/-
  The walks of package lrec's Decode and its deferred closure. Condition: the text is shorter than 2^47.
-/
import Derived.Test.YtjlhkmkjegamdaaLrecR
import Derived.Tactics
import Derived.Tactics2
import Derived.Defers
import Derived.Recover
namespace Go.Proofs.Ytjlhkmkjegamdaa
set_option linter.unusedVariables false
set_option linter.unusedSimpArgs false
open Go.RowKit

set_option maxHeartbeats 1000000 in
theorem decoded_idle (E T X : Nat) (w : World) :
    CallsD Try.prog 37 #[.pointer (some ⟨E, 0, none⟩), .pointer (some ⟨T, 0, none⟩), .pointer (some ⟨X, 0, none⟩)] .returning w fun e u' w' => e = .returned (.tuple #[]) ∧ u' = .returning ∧ w = w' := by
  refine callsD_of_wpS Try.func37 rfl fun c₀ cs hu => ?_
  apply wpS_seq
  apply wpS_region
  simp [wpOpsS, go_sem, recoverD, hu, Try.ntmps37, Exit.thenS]
  refine wpS_of_wp ?_
  show Code.wp Try.prog _ _ { tmps := #[.pointer (some ⟨E, 0, none⟩), .pointer (some ⟨T, 0, none⟩), .pointer (some ⟨X, 0, none⟩), .nilIface, undef, undef, .nilIface, undef, undef, undef, undef, undef, undef, undef, undef, undef, undef, undef], defers := [] } w
  go_wp2_with fail
  exact ⟨rfl, _, by cases c₀; simp_all, _, results_none rfl _ _ _, rfl, rfl, rfl⟩

theorem assert_wrong (W : World) (v : Value) : (Instr.typeAssert (.iface 56 v) 20 56 true).run Try.prog W = .ok (.tuple #[v, .bool true]) W := by
  have h := Try.underlying56
  have hu : (underlying 56).run Try.prog W = .ok (.struct #[]) W := by
    simp [underlying, h]
  simp [Instr.typeAssert, Sem.run_bind, hu, Result.andThen]
set_option maxHeartbeats 1000000 in
theorem decoded_gave (E T X : Nat) (u0 u1 u2 : Value) (w : World) (hE : Blk w E [u0, u1, u2] 27) (hT : Blk w T [.int .i64 0] 3) (hX : Blk w X [.int .i64 0] 28) (h1 : E ≠ T) (h2 : E ≠ X) (h3 : T ≠ X) :
    CallsD Try.prog 37 #[.pointer (some ⟨E, 0, none⟩), .pointer (some ⟨T, 0, none⟩), .pointer (some ⟨X, 0, none⟩)] (.panicking gaveUp) w fun e u' w' =>
      e = .returned (.tuple #[]) ∧ u' = .panicking [{ v := .iface 56 (.agg #[]), recovered := true }] ∧
      Blk w' E (entryCells 0 0 none 0 0) 27 ∧ Blk w' T [.int .i64 0] 3 ∧ Blk w' X [.int .i64 4] 28 ∧ Mod [E, T, X] w w' := by
  refine callsD_of_wpS Try.func37 rfl fun c₀ cs hu => ?_
  apply wpS_seq
  apply wpS_region
  simp [gaveUp] at hu
  simp [wpOpsS, go_sem, recoverD, hu, Try.ntmps37, Exit.thenS]
  refine wpS_of_wp ?_
  show Code.wp Try.prog _ _ { tmps := #[.pointer (some ⟨E, 0, none⟩), .pointer (some ⟨T, 0, none⟩), .pointer (some ⟨X, 0, none⟩), .iface 56 (.agg #[]), undef, undef, .iface 56 (.agg #[]), undef, undef, undef, undef, undef, undef, undef, undef, undef, undef, undef], defers := [] } w
  have hta := assert_wrong w (.agg #[])
  clear hu
  go_upto_region 3 with fail
  have hE1 := hE.alloc (.cells #[] 56)
  have hT1 := hT.alloc (.cells #[] 56)
  have hX1 := hX.alloc (.cells #[] 56)
  have hm1 := (Mod.refl [E, T, X] w).alloc (.cells #[] 56)
  generalize hF : w.heap.size = F
  generalize w.alloc (.cells #[] 56) = w1 at *
  clear hta hE hT hX
  have e0 : w1.cell? ⟨E, 0, none⟩ = some u0 := by rw [hE1.cell]; rfl
  have e1 : w1.cell? ⟨E, 1, none⟩ = some u1 := by rw [hE1.cell]; rfl
  have e2 : w1.cell? ⟨E, 2, none⟩ = some u2 := by rw [hE1.cell]; rfl
  have e3 : w1.cell? ⟨T, 0, none⟩ = some (.int .i64 0) := by rw [hT1.cell]; rfl
  have e4 : w1.cell? ⟨X, 0, none⟩ = some (.int .i64 0) := by rw [hX1.cell]; rfl
  have z0 := hE1.free 0
  have z1 := hE1.free 1
  have z2 := hE1.free 2
  have z3 := hT1.free 0
  have z4 := hX1.free 0
  have hE2 := ((hE1.set 0 (.int .u64 0)).set 1 (.int .u64 0)).set 2 (.slice none 0 0)
  go_wp2_with fail
  have g1 : T ≠ E := Ne.symm h1
  have g2 : X ≠ E := Ne.symm h2
  have g3 : X ≠ T := Ne.symm h3
  refine ⟨rfl, _, rfl, _, results_none rfl _ _ _, rfl, rfl, (hE2.other _ _ h1).other _ _ h2, ?_, ?_, ?_⟩
  · exact ((((hT1.other _ _ g1).other _ _ g1).other _ _ g1).set 0 (.int .i64 0)).other _ _ h3
  · exact ((((hX1.other _ _ g2).other _ _ g2).other _ _ g2).other _ _ g3).set 0 (.int .i64 4)
  · exact ((((hm1.setCell _ _ (.inl (by simp))).setCell _ _ (.inl (by simp))).setCell _ _ (.inl (by simp))).setCell _ _ (.inl (by simp))).setCell _ _ (.inl (by simp))
end Go.Proofs.Ytjlhkmkjegamdaa
