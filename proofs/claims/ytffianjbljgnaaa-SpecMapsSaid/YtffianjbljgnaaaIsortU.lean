/-
  The insertion sort of plain lists: a sorted permutation. No program here. No condition.
-/
import Derived.Test.YtffianjbljgnaaaIns
namespace Go.Proofs.Ytffianjbljgnaaa
set_option linter.unusedVariables false
set_option linter.unusedSimpArgs false
open Go.RowKit

section
variable {α : Type}
theorem insRev_perm (lt : α → α → Bool) (x : α) (l : List α) : (insRev lt x l).Perm (x :: l) := by
  induction l with
  | nil => exact List.Perm.refl _
  | cons y t ih =>
    unfold insRev
    split
    · exact (ih.cons y).trans (List.Perm.swap x y t)
    · exact List.Perm.refl _
theorem isort_fold_perm (lt : α → α → Bool) (d : List α) : ∀ R : List α, (d.foldl (fun R x => insRev lt x R) R).Perm (R ++ d) := by
  induction d with
  | nil => intro R; simp
  | cons y t ih =>
    intro R
    rw [List.foldl_cons]
    refine (ih _).trans (((insRev_perm lt y R).append_right t).trans ?_)
    rw [List.cons_append]
    exact List.perm_middle.symm
theorem isort_perm (lt : α → α → Bool) (d : List α) : (isort lt d).Perm d := by
  unfold isort
  exact (List.reverse_perm _).trans (by simpa using isort_fold_perm lt d [])
end
theorem insRev_desc (x : Nat) (l : List Nat) (h : l.Pairwise (fun a b => b ≤ a)) : (insRev below64 x l).Pairwise (fun a b => b ≤ a) := by
  induction l with
  | nil => simp [insRev]
  | cons y t ih =>
    obtain ⟨h1, h2⟩ := List.pairwise_cons.1 h
    unfold insRev
    split
    · rename_i hlt
      have hxy : x < y := by simpa [below64] using hlt
      refine List.pairwise_cons.2 ⟨fun z hz => ?_, ih h2⟩
      rcases List.mem_cons.1 ((insRev_perm below64 x t).mem_iff.1 hz) with rfl | hz
      · omega
      · exact h1 z hz
    · rename_i hlt
      have hxy : y ≤ x := by
        have : ¬ x < y := by simpa [below64] using hlt
        omega
      refine List.pairwise_cons.2 ⟨fun z hz => ?_, h⟩
      rcases List.mem_cons.1 hz with rfl | hz
      · exact hxy
      · exact Nat.le_trans (h1 z hz) hxy
theorem isort_asc (d : List Nat) : (isort below64 d).Pairwise (fun a b => a ≤ b) := by
  unfold isort
  rw [List.pairwise_reverse]
  have : ∀ (d R : List Nat), R.Pairwise (fun a b => b ≤ a) → (d.foldl (fun R x => insRev below64 x R) R).Pairwise (fun a b => b ≤ a) := by
    intro d
    induction d with
    | nil => intro R h; exact h
    | cons y t ih => intro R h; exact ih _ (insRev_desc y R h)
  exact this d [] List.Pairwise.nil

end Go.Proofs.Ytffianjbljgnaaa
