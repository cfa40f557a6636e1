/-
  The walk of the document's Open, and what is sealed is opened. Condition: the text is shorter than 2^63 - 4.
-/
import Derived.Test.YtnijijcbdajodaaCrc2
namespace Go.Proofs.Ytnijijcbdajodaa
set_option linter.unusedVariables false
set_option linter.unusedSimpArgs false
open Go.RowKit

set_option maxHeartbeats 400000 in
theorem refOpen_any (l : List UInt8) (w : World) (hs : l.length + 4 ≤ maxLen) :
    Calls Try.prog 37 #[.string ⟨l.toArray⟩] w fun e w' => e = .returned (.tuple #[.string ⟨(openI l).1.toArray⟩, .bool (openI l).2]) ∧ Below w.heap.size w w' := by
  unfold maxLen at hs
  by_cases h : l.length < 4
  · have e : openI l = ([], false) := by simp [openI]; omega
    rw [e]
    go_enter Try.func37, Try.ntmps37
    go_wp2_with fail
    go_ret2
    exact ⟨rfl, Below.refl _ _⟩
  · by_cases h2 : sealI (l.take (l.length - 4)) = l
    · have e : openI l = (l.take (l.length - 4), true) := by simp [openI, h2]; omega
      rw [e]
      go_enter Try.func37, Try.ntmps37
      go_wp2_with fail
      rw [extract_list]
      refine (refSeal_any _ _ ?_).mono ?_
      · unfold maxLen; simp; omega
      rintro e w1 ⟨rfl, hb⟩
      go_wp2_with fail
      go_ret2
      rw [extract_list]
      exact ⟨rfl, hb⟩
    · have e : openI l = ([], false) := by simp [openI, h2]
      rw [e]
      go_enter Try.func37, Try.ntmps37
      go_wp2_with fail
      rw [extract_list]
      refine (refSeal_any _ _ ?_).mono ?_
      · unfold maxLen; simp; omega
      rintro e w1 ⟨rfl, hb⟩
      go_wp2_with fail
      · go_ret2
        exact ⟨rfl, hb⟩
      · exfalso; simp_all

theorem sumL_any (l : List UInt8) (w : World) (hs : l.length ≤ maxLen) :
    Calls Try.prog 43 #[.string ⟨l.toArray⟩] w fun e w' => e = .returned (.int .u32 (sumI l)) ∧ Below w.heap.size w w' :=
  sum_any ⟨l.toArray⟩ w (by simpa [ByteArray.size] using hs)
theorem refSumL_any (l : List UInt8) (w : World) (hs : l.length ≤ maxLen) :
    Calls Try.prog 45 #[.string ⟨l.toArray⟩] w fun e w' => e = .returned (.int .u32 (sumI l)) ∧ w = w' :=
  refSum_any ⟨l.toArray⟩ w (by simpa [ByteArray.size] using hs)

theorem seal_length (l : List UInt8) : (sealI l).length = l.length + 4 := by simp [sealI]
theorem open_seal (l : List UInt8) : openI (sealI l) = (l, true) := by
  have h : (sealI l).take ((sealI l).length - 4) = l := by rw [seal_length]; simp [sealI]
  unfold openI
  rw [h, if_pos ⟨by rw [seal_length]; omega, rfl⟩]

end Go.Proofs.Ytnijijcbdajodaa
