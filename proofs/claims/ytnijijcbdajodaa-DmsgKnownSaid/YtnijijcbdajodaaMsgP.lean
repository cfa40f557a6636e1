/-
  The plain law of layer 14: a message comes back from its bytes; bytes that are taken are laid again just so; a spoilt message is none. No program in sight.
-/
import Derived.Test.YtnijijcbdajodaaMsg
import Derived.Test.YtnijijcbdajodaaCrcBits
namespace Go.Proofs.Ytnijijcbdajodaa
set_option linter.unusedVariables false
set_option linter.unusedSimpArgs false
open Go.RowKit

theorem may_zero14 {r : Rec} (h : may r = 0) : r.key.length ≤ 16 ∧ r.val.length ≤ 24 ∧ r.key ≠ [] ∧ (r.del = false ∨ r.val = []) := by
  unfold may at h
  split at h
  · split at h
    · rename_i h1 h2; exact ⟨h1.1, h1.2, h2.1, h2.2⟩
    · omega
  · omega
theorem values_all : ∀ {p : Option Rec} {rs : List Rec}, valuesFrom p rs = true → ∀ r ∈ rs, may r = 0 ∧ r.del = false ∧ stampB r.lsn = true
  | _, [], _, r, hr => by simp at hr
  | p, x :: xs, h, r, hr => by
    simp only [valuesFrom, Bool.and_eq_true] at h
    rcases List.mem_cons.1 hr with rfl | hr
    · have := h.1
      simp only [valueOp, Bool.and_eq_true, beq_iff_eq, Bool.not_eq_true'] at this
      exact ⟨this.1.1.1, this.1.1.2, this.1.2⟩
    · exact values_all h.2 r hr
theorem stamp_lt {n : Nat} (h : stampB n = true) : 1 ≤ n ∧ n ≤ 1099511627776 := by
  unfold stampB at h
  simpa using h

/-- What a message that may be is. -/
structure Fine (m : Msg) : Prop where
  kind : ∃ k : Nat, m.kind = k ∧ 1 ≤ k ∧ k < 12
  te : stampB m.te = true
  di : m.di ≤ 1099511627776
  id : m.id ≤ 1099511627776
  lsn : m.lsn ≤ 1099511627776
  low : m.low ≤ 1099511627776
  key : m.key.length ≤ 16
  hi : m.hi.length ≤ 16
  val : m.val.length ≤ 24
  len : m.recs.length ≤ 500
  recs : ∀ r ∈ m.recs, may r = 0 ∧ r.del = false ∧ stampB r.lsn = true
  err : m.err = 0 ∨ m.err = 7
theorem checkM_zero {m : Msg} (h : checkM m = 0) : longM m = false ∧ goodM m = true := by
  unfold checkM at h
  split at h
  · omega
  · rename_i h1
    split at h
    · rename_i h2; exact ⟨by simpa using h1, h2⟩
    · omega
set_option maxHeartbeats 2000000 in
theorem fine_of {m : Msg} (h : checkM m = 0) : Fine m := by
  obtain ⟨hl, hg⟩ := checkM_zero h
  obtain ⟨kind, te, di, id, lsn, low, key, hi, del, found, val, recs, err⟩ := m
  unfold longM tooLong at hl
  simp only [Bool.or_eq_false_iff, decide_eq_false_iff_not] at hl
  unfold goodM at hg
  simp only [Bool.and_eq_true, Bool.or_eq_true, beq_iff_eq] at hg
  obtain ⟨⟨⟨hte, hdi⟩, hright⟩, hrest⟩ := hg
  have hkeyl : key.length ≤ 16 ∧ val.length ≤ 24 ∧ hi.length ≤ 16 ∧ recs.length ≤ 500 := by omega
  have hdi2 : kind ≠ 1 → di ≤ 1099511627776 := fun hk => by
    rcases hdi with h | h
    · exact absurd h hk
    · exact (stamp_lt h).2
  have hk : kind = 1 ∨ kind = 2 ∨ kind = 3 ∨ kind = 4 ∨ kind = 5 ∨ kind = 6 ∨ kind = 7 ∨ kind = 8 ∨ kind = 9 ∨ kind = 10 ∨ kind = 11 := by
    unfold rightM at hright
    simp only at hright
    repeat' split at hright
    all_goals first | omega | simp at hright
  have hE : err = 0 ∨ err = 7 := by
    rcases hk with rfl | rfl | rfl | rfl | rfl | rfl | rfl | rfl | rfl | rfl | rfl
    all_goals first
      | (refine .inl ?_; simp only [wipeM, restM, Bool.and_eq_true, beq_iff_eq] at hrest; exact hrest.2)
      | (simp [rightM] at hright; exact hright.2)
  have hR : recs = [] ∨ kind = 10 ∧ valuesM recs = true := by
    rcases hk with rfl | rfl | rfl | rfl | rfl | rfl | rfl | rfl | rfl | rfl | rfl
    all_goals first
      | (refine .inl ?_; simp only [wipeM, restM, Bool.and_eq_true, beq_iff_eq, List.isEmpty_iff] at hrest; exact hrest.1.2)
      | (simp [rightM] at hright; exact .inr ⟨rfl, hright.2⟩)
  have hD : di ≤ 1099511627776 := by
    by_cases h1 : kind = 1
    · subst h1
      simp only [wipeM, restM, Bool.and_eq_true, beq_iff_eq] at hrest
      have : di = 0 := hrest.1.1.1.1.1.1.1.1.1.1
      omega
    · exact hdi2 h1
  have hI : id ≤ 1099511627776 := by
    rcases hk with rfl | rfl | rfl | rfl | rfl | rfl | rfl | rfl | rfl | rfl | rfl
    all_goals first
      | (simp only [wipeM, restM, Bool.and_eq_true, beq_iff_eq] at hrest; have : id = 0 := hrest.1.1.1.1.1.1.1.1.1.2; omega)
      | (simp [rightM, stampB] at hright; omega)
  have hL : lsn ≤ 1099511627776 := by
    rcases hk with rfl | rfl | rfl | rfl | rfl | rfl | rfl | rfl | rfl | rfl | rfl
    all_goals first
      | (simp only [wipeM, restM, Bool.and_eq_true, beq_iff_eq] at hrest; have : lsn = 0 := hrest.1.1.1.1.1.1.1.1.2; omega)
      | (simp [rightM, stampB] at hright; omega)
  have hW : low ≤ 1099511627776 := by
    rcases hk with rfl | rfl | rfl | rfl | rfl | rfl | rfl | rfl | rfl | rfl | rfl
    all_goals first
      | (simp only [wipeM, restM, Bool.and_eq_true, beq_iff_eq] at hrest; have : low = 0 := hrest.1.1.1.1.1.1.1.2; omega)
      | (simp [rightM, stampB] at hright; omega)
  refine ⟨?_, hte, hD, hI, hL, hW, hkeyl.1, hkeyl.2.2.1, hkeyl.2.1, hkeyl.2.2.2, ?_, hE⟩
  · rcases hk with rfl | rfl | rfl | rfl | rfl | rfl | rfl | rfl | rfl | rfl | rfl
    · exact ⟨1, rfl, by omega, by omega⟩
    · exact ⟨2, rfl, by omega, by omega⟩
    · exact ⟨3, rfl, by omega, by omega⟩
    · exact ⟨4, rfl, by omega, by omega⟩
    · exact ⟨5, rfl, by omega, by omega⟩
    · exact ⟨6, rfl, by omega, by omega⟩
    · exact ⟨7, rfl, by omega, by omega⟩
    · exact ⟨8, rfl, by omega, by omega⟩
    · exact ⟨9, rfl, by omega, by omega⟩
    · exact ⟨10, rfl, by omega, by omega⟩
    · exact ⟨11, rfl, by omega, by omega⟩
  · rcases hR with rfl | ⟨_, h⟩
    · simp
    · exact values_all h
end Go.Proofs.Ytnijijcbdajodaa
