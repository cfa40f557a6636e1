/-
  Records asked whether they are alike. No condition.
-/
import Derived.Test.YtffianjbljgnaaaOnce
import Derived.Test.YtffianjbljgnaaaReplay
namespace Go.Proofs.Ytffianjbljgnaaa
set_option linter.unusedVariables false
set_option linter.unusedSimpArgs false
open Go.RowKit

set_option maxHeartbeats 1000000 in
theorem run_eql_rec (x y : Rec) (w : World) : (binOp .eql 58 (recV x) (recV y)).run Try.prog w = .ok (.bool (decide (x = y))) w := by
  have u1 := Try.underlying9
  have u2 := Try.underlying29
  have u3 := Try.underlying4
  have hS : Try.prog.underlying 58 = some (.struct (Try.prog.fieldsOf 58)) := by kernel_rfl
  have hp : Try.prog.stoodInHeld 58 = false := by kernel_rfl
  unfold recV
  rw [run_eql_struct, show (10000 : Nat) = 9999 + 1 from rfl, run_equalIn_agg w 9999 58 _ _ hS hp]
  simp only [Program.fieldsOf, Try.underlying58]
  have a1 := Try.isAgg9
  have a2 := Try.isAgg29
  have a3 := Try.isAgg4
  have z1 := Try.sizeOf9
  have z2 := Try.sizeOf29
  have z3 := Try.sizeOf4
  have bb := bytes_tl
  go_simp
  obtain ⟨xk, xl, xd, xv⟩ := x
  obtain ⟨yk, yl, yd, yv⟩ := y
  have hl : ((xl : Int) = (yl : Int)) ↔ xl = yl := Int.ofNat_inj
  simp only [hl, Rec.mk.injEq]
  by_cases h1 : xk = yk <;> by_cases h2 : xl = yl <;> by_cases h3 : xd = yd <;> by_cases h4 : xv = yv <;> simp [h1, h2, h3, h4]
end Go.Proofs.Ytffianjbljgnaaa
