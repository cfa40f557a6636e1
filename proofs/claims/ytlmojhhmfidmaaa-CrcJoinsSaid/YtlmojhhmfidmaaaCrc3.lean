/-
  The walks of the document's Open, of works, and of the laws CrcIs, CrcOpens, CrcBack, CrcKnown: each returns true. No condition.
-/
import Derived.Test.YtlmojhhmfidmaaaCrc2
namespace Go.Proofs.Ytlmojhhmfidmaaa
open Go.RowKit

set_option maxHeartbeats 400000 in
theorem refOpen_any (l : List UInt8) (w : World) (hs : l.length + 4 ≤ maxLen) :
    Calls Try.prog 15 #[.string ⟨l.toArray⟩] w fun e w' => e = .returned (.tuple #[.string ⟨(openI l).1.toArray⟩, .bool (openI l).2]) ∧ Below w.heap.size w w' := by
  unfold maxLen at hs
  by_cases h : l.length < 4
  · have e : openI l = ([], false) := by simp [openI]; omega
    rw [e]
    go_enter Try.func15, Try.ntmps15
    go_wp2_with fail
    go_ret2
    exact ⟨rfl, Below.refl _ _⟩
  · by_cases h2 : sealI (l.take (l.length - 4)) = l
    · have e : openI l = (l.take (l.length - 4), true) := by simp [openI, h2]; omega
      rw [e]
      go_enter Try.func15, Try.ntmps15
      go_wp2_with fail
      rw [extract_list]
      refine (refSeal_any _ _ ?_).mono ?_
      · unfold maxLen; simp; omega
      rintro e w1 ⟨rfl, hb⟩
      go_wp2_with fail
      go_ret2
      rw [extract_list]
      exact ⟨rfl, hb⟩
    · have e : openI l = ([], false) := by simp [openI, h2]
      rw [e]
      go_enter Try.func15, Try.ntmps15
      go_wp2_with fail
      rw [extract_list]
      refine (refSeal_any _ _ ?_).mono ?_
      · unfold maxLen; simp; omega
      rintro e w1 ⟨rfl, hb⟩
      go_wp2_with fail
      · go_ret2
        exact ⟨rfl, hb⟩
      · exfalso; simp_all

theorem sumL_any (l : List UInt8) (w : World) (hs : l.length ≤ maxLen) :
    Calls Try.prog 9 #[.string ⟨l.toArray⟩] w fun e w' => e = .returned (.int .u32 (sumI l)) ∧ Below w.heap.size w w' :=
  sum_any ⟨l.toArray⟩ w (by simpa [ByteArray.size] using hs)
theorem refSumL_any (l : List UInt8) (w : World) (hs : l.length ≤ maxLen) :
    Calls Try.prog 10 #[.string ⟨l.toArray⟩] w fun e w' => e = .returned (.int .u32 (sumI l)) ∧ w = w' :=
  refSum_any ⟨l.toArray⟩ w (by simpa [ByteArray.size] using hs)
theorem _root_.Go.RowKit.Below.on {a b c : World} (h : Below a.heap.size a b) (k : Below b.heap.size b c) : Below a.heap.size a c := h.trans (k.mono h.size)

theorem k1 : openI (sealI [97]) = ([97], true) := by decide +kernel
theorem k1s : (sealI [97]).length = 5 := by decide +kernel
theorem k2 : openI [] = ([], false) := by decide +kernel
theorem k3 : openI [97, 98, 99] = ([], false) := by decide +kernel
theorem k4 : openI [0, 0, 0, 0] = ([], true) := by decide +kernel
theorem k5 : sumI [] = 0 := by decide +kernel
theorem k6 : sumI [49, 50, 51, 52, 53, 54, 55, 56, 57] = 3421780262 := by decide +kernel
theorem k7 : sealI [49, 50, 51, 52, 53, 54, 55, 56, 57] = [49, 50, 51, 52, 53, 54, 55, 56, 57, 38, 57, 244, 203] := by decide +kernel

set_option maxHeartbeats 400000 in
theorem works_any (w : World) : Calls Try.prog 13 #[] w fun e w' => e = .returned (.bool true) ∧ Below w.heap.size w w' := by
  go_enter Try.func13, Try.ntmps13
  go_wp2_with fail
  refine (seal_any [97] _ (by decide)).mono ?_
  rintro e w1 ⟨rfl, hb1⟩
  go_wp2_with fail
  refine (open_any (sealI [97]) _ (by rw [k1s]; decide)).mono ?_
  rw [k1]
  rintro e w2 ⟨rfl, hb2⟩
  go_wp2_with fail
  refine (open_any [] _ (by decide)).mono ?_
  rw [k2]
  rintro e w3 ⟨rfl, hb3⟩
  go_wp2_with fail
  refine (open_any [97, 98, 99] _ (by decide)).mono ?_
  rw [k3]
  rintro e w4 ⟨rfl, hb4⟩
  go_wp2_with fail
  refine (open_any [0, 0, 0, 0] _ (by decide)).mono ?_
  rw [k4]
  rintro e w5 ⟨rfl, hb5⟩
  go_wp2_with fail
  refine (sumL_any [] _ (by decide)).mono ?_
  rw [k5]
  rintro e w6 ⟨rfl, hb6⟩
  go_wp2_with fail
  refine (sumL_any [49, 50, 51, 52, 53, 54, 55, 56, 57] _ (by decide)).mono ?_
  rw [k6]
  rintro e w7 ⟨rfl, hb7⟩
  go_wp2_with fail
  refine (seal_any [49, 50, 51, 52, 53, 54, 55, 56, 57] _ (by decide)).mono ?_
  rw [k7]
  rintro e w8 ⟨rfl, hb8⟩
  go_wp2_with fail
  go_ret
  exact ⟨rfl, ((((((hb1.on hb2).on hb3).on hb4).on hb5).on hb6).on hb7).on hb8⟩

set_option maxHeartbeats 400000 in
theorem is_walk (a0 : ByteArray) (w0 : a0.size ≤ maxLen) (w : World) :
    Calls Try.prog 3 #[.string a0] w fun e w' => e = .returned (.bool true) ∧ Below w.heap.size w w' := by
  unfold maxLen at w0
  obtain ⟨⟨l⟩⟩ := a0
  go_enter Try.func3, Try.ntmps3
  go_wp2_with fail
  all_goals
    rw [extract_list]
    refine (sumL_any _ _ ?_).mono ?_
    · unfold maxLen; simp; omega
    rintro e w1 ⟨rfl, hb1⟩
    go_wp2_with fail
    refine (refSumL_any _ _ ?_).mono ?_
    · unfold maxLen; simp; omega
    rintro e w2 ⟨rfl, rfl⟩
    go_wp2_with fail
    refine (seal_any _ _ ?_).mono ?_
    · unfold maxLen; simp; omega
    rintro e w2 ⟨rfl, hb2⟩
    go_wp2_with fail
    refine (refSeal_any _ _ ?_).mono ?_
    · unfold maxLen; simp; omega
    rintro e w3 ⟨rfl, hb3⟩
    go_wp2_with fail
    refine (works_any _).mono ?_
    rintro e w4 ⟨rfl, hb4⟩
    go_wp2_with fail
    go_ret
    exact ⟨rfl, ((hb1.on hb2).on hb3).on hb4⟩

set_option maxHeartbeats 400000 in
theorem opens_walk (a0 : ByteArray) (w0 : a0.size ≤ maxLen) (w : World) :
    Calls Try.prog 4 #[.string a0] w fun e w' => e = .returned (.bool true) ∧ Below w.heap.size w w' := by
  unfold maxLen at w0
  obtain ⟨⟨l⟩⟩ := a0
  go_enter Try.func4, Try.ntmps4
  go_wp2_with fail
  all_goals
    rw [extract_list]
    refine (open_any _ _ ?_).mono ?_
    · unfold maxLen; simp; omega
    rintro e w1 ⟨rfl, hb1⟩
    go_wp2_with fail
    refine (refOpen_any _ _ ?_).mono ?_
    · unfold maxLen; simp; omega
    rintro e w2 ⟨rfl, hb2⟩
    go_wp2_with fail
    refine (works_any _).mono ?_
    rintro e w4 ⟨rfl, hb4⟩
    go_wp2_with fail
    go_ret
    exact ⟨rfl, (hb1.on hb2).on hb4⟩

theorem seal_length (l : List UInt8) : (sealI l).length = l.length + 4 := by simp [sealI]
theorem open_seal (l : List UInt8) : openI (sealI l) = (l, true) := by
  have h : (sealI l).take ((sealI l).length - 4) = l := by rw [seal_length]; simp [sealI]
  unfold openI
  rw [h, if_pos ⟨by rw [seal_length]; omega, rfl⟩]

set_option maxHeartbeats 400000 in
theorem back_walk (a0 : ByteArray) (w0 : a0.size ≤ maxLen) (w : World) :
    Calls Try.prog 5 #[.string a0] w fun e w' => e = .returned (.bool true) ∧ Below w.heap.size w w' := by
  unfold maxLen at w0
  obtain ⟨⟨l⟩⟩ := a0
  have e1 := seal_length (l.take 20000)
  have e2 := seal_length l
  go_enter Try.func5, Try.ntmps5
  go_wp2_with fail
  all_goals
    rw [extract_list]
    refine (seal_any _ _ ?_).mono ?_
    · unfold maxLen; simp; omega
    rintro e w1 ⟨rfl, hb1⟩
    go_wp2_with fail
    refine (open_any _ _ ?_).mono ?_
    · unfold maxLen; rw [seal_length]; simp; omega
    rw [open_seal]
    rintro e w2 ⟨rfl, hb2⟩
    go_wp2_with fail
    refine (works_any _).mono ?_
    rintro e w4 ⟨rfl, hb4⟩
    go_wp2_with fail
    go_ret
    exact ⟨rfl, (hb1.on hb2).on hb4⟩

theorem k8 : openI [49, 50, 51, 52, 53, 54, 55, 56, 57, 38, 57, 244, 203] = ([49, 50, 51, 52, 53, 54, 55, 56, 57], true) := by decide +kernel
theorem k9 : openI [49, 50, 51, 52, 53, 54, 55, 56, 57, 203, 244, 57, 38] = ([], false) := by decide +kernel
theorem k10 : openI [0, 0, 0] = ([], false) := by decide +kernel
theorem k11 : sumI [97] = 3904355907 := by decide +kernel
theorem k12 : sumI [97, 98, 99] = 891568578 := by decide +kernel
theorem k13 : sumI [84, 104, 101, 32, 113, 117, 105, 99, 107, 32, 98, 114, 111, 119, 110, 32, 102, 111, 120, 32, 106, 117, 109, 112, 115, 32, 111, 118, 101, 114, 32, 116, 104, 101, 32, 108, 97, 122, 121, 32, 100, 111, 103] = 1095738169 := by decide +kernel
theorem k14 : sumI [0, 0, 0, 0] = 558161692 := by decide +kernel

set_option maxHeartbeats 400000 in
theorem known_walk (w : World) :
    Calls Try.prog 8 #[] w fun e w' => e = .returned (.bool true) ∧ Below w.heap.size w w' := by
  go_enter Try.func8, Try.ntmps8
  go_wp2_with fail
  refine (open_any [49, 50, 51, 52, 53, 54, 55, 56, 57, 38, 57, 244, 203] _ (by decide)).mono ?_
  rw [k8]
  rintro e w1 ⟨rfl, hb1⟩
  go_wp2_with fail
  refine (open_any [49, 50, 51, 52, 53, 54, 55, 56, 57, 203, 244, 57, 38] _ (by decide)).mono ?_
  rw [k9]
  rintro e w2 ⟨rfl, hb2⟩
  go_wp2_with fail
  refine (open_any [0, 0, 0] _ (by decide)).mono ?_
  rw [k10]
  rintro e w3 ⟨rfl, hb3⟩
  go_wp2_with fail
  refine (works_any _).mono ?_
  rintro e w4 ⟨rfl, hb4⟩
  go_wp2_with fail
  refine (sumL_any [97] _ (by decide)).mono ?_
  rw [k11]
  rintro e w5 ⟨rfl, hb5⟩
  go_wp2_with fail
  refine (sumL_any [97, 98, 99] _ (by decide)).mono ?_
  rw [k12]
  rintro e w6 ⟨rfl, hb6⟩
  go_wp2_with fail
  refine (sumL_any [84, 104, 101, 32, 113, 117, 105, 99, 107, 32, 98, 114, 111, 119, 110, 32, 102, 111, 120, 32, 106, 117, 109, 112, 115, 32, 111, 118, 101, 114, 32, 116, 104, 101, 32, 108, 97, 122, 121, 32, 100, 111, 103] _ (by decide)).mono ?_
  rw [k13]
  rintro e w7 ⟨rfl, hb7⟩
  go_wp2_with fail
  refine (sumL_any [0, 0, 0, 0] _ (by decide)).mono ?_
  rw [k14]
  rintro e w8 ⟨rfl, hb8⟩
  go_wp2_with fail
  go_ret
  exact ⟨rfl, ((((((hb1.on hb2).on hb3).on hb4).on hb5).on hb6).on hb7).on hb8⟩
end Go.Proofs.Ytlmojhhmfidmaaa
