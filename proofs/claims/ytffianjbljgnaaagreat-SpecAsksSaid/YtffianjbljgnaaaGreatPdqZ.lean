/-
  slices.Sort of numbers without a sign, of any length up to a million: a sorted permutation.
-/
import Derived.Test.YtffianjbljgnaaaGreatPdq
namespace Go.Proofs.YtffianjbljgnaaaGreat
set_option linter.unusedVariables false
set_option linter.unusedSimpArgs false
open Go.RowKit
set_option maxHeartbeats 1000000 in
theorem sortA_any (g : Nat) (D : List Nat) (rest : List Value) (cap : Nat) (hl : D.length ≤ 1000000) (hcap : D.length ≤ cap) (w : World) (h : Blk w g (u64s D ++ rest) 33) :
    Calls Tryz.prog 36 #[.slice (some ⟨g, 0, none⟩) D.length cap] w fun e w' => e = .returned (.tuple #[]) ∧ ∃ D' : List Nat, D'.Perm D ∧ D'.Pairwise (fun a b => a ≤ b) ∧ Blk w' g (u64s D' ++ rest) 33 ∧ Mod [g] w w' := by
  have hbl : Sort.bitsLen D.length ≤ 62 := (Sort.bitsLen_le_iff _ 62).2 (by omega)
  have hP := pdq_any (D.length - 0) g D.toArray rest cap 0 D.length (Sort.bitsLen D.length) rfl (by omega) (by simp) (by simpa using hcap) (by simpa using hl) (by omega) (Or.inl rfl) w (by simpa [ArrAt] using h)
  have hsz : D.toArray.size = D.length := by simp
  rw [hsz] at hP
  rw [show ((0 : Nat) : Int) = 0 from rfl] at hP
  have HP := Lib.hid hP
  clear hP
  have hwc : IntKind.u64.wrap (D.length : Int) = (D.length : Int) := IntWalk.u64_in _ (by omega)
  go_enter Tryz.func36, Tryz.ntmps36
  go_wp2_with fail
  refine (len_any D.length (by omega) w).mono ?_
  rintro e w1 ⟨rfl, rfl⟩
  go_wp2_with fail
  refine HP.out.mono ?_
  rintro e w2 ⟨d', rfl, hp, hs, hA, hm⟩
  have HE := Lib.hid (show ∃ D' : List Nat, D'.Perm D ∧ D'.Pairwise (fun a b => a ≤ b) ∧ Blk w2 g (u64s D' ++ rest) 33 ∧ Mod [g] w w2 from by
    have hl' : d'.size = D.length := by rw [hp.1, hsz]
    refine ⟨d'.toList, ?_, ?_, hA, hm⟩
    · have h3 := hp.2.2
      have e1 : d'.extract 0 D.length = d' := by rw [← hl']; exact Array.extract_size
      have e2 : D.toArray.extract 0 D.length = D.toArray := by rw [← hsz]; exact Array.extract_size
      rw [e1, e2] at h3
      exact h3
    · rw [List.pairwise_iff_getElem]
      intro i j hi hj hij
      have h4 := hs i j (by omega) hij (by simpa [hl'] using hj)
      rw [getElem!_pos d' j (by simpa using hj), getElem!_pos d' i (by simpa using hi)] at h4
      simp only [below64, decide_eq_false_iff_not] at h4
      simp only [Array.getElem_toList]
      omega)
  clear hp hs hA hm HP
  go_wp2_with fail
  go_end0
  exact ⟨rfl, HE.out⟩
end Go.Proofs.YtffianjbljgnaaaGreat
