/-
  The closed facts of coupletlaw06's works. No condition.
-/
import Derived.Test.YtjlhkmkjegamdaaLaw6A
import Derived.KernelRfl
namespace Go.Proofs.Ytjlhkmkjegamdaa
set_option linter.unusedVariables false
set_option linter.unusedSimpArgs false
open Go.RowKit

def oneText : List UInt8 := [1, 2, 1, 1, 97, 0, 1, 98]
def oneB : List UInt8 := 12 :: sealI oneText
theorem one_check : checkRes 1 2 oneE.ops = 0 := by kernel_rfl
theorem one_bytes : encRes 1 2 oneE.ops = oneB := by kernel_rfl
theorem one_len : oneB.length = 13 := by kernel_rfl
theorem one_read : readAll (oneB ++ [120, 121, 122]) = some (oneE, 13) := by kernel_rfl
theorem one_cut : readAll (oneB.take 12) = none := by kernel_rfl
end Go.Proofs.Ytjlhkmkjegamdaa
