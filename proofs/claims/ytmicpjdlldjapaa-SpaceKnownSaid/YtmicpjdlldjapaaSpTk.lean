/-
  The plain law of SpaceTakes: a space that takes the pieces of another one. No program here. No condition.
-/
import Derived.Test.YtmicpjdlldjapaaSpD
namespace Go.Proofs.Ytmicpjdlldjapaa
set_option linter.unusedVariables false
set_option linter.unusedSimpArgs false

/-- Of the pieces l of a good space the first j are in T. -/
structure Taken (S T : Sp) (j : Nat) : Prop where
  good : T.Good
  segs : T.segs = S.segs
  per : T.per = S.per
  now : T.now = -1
  ls : T.ls = S.ls.take j
  cnt : T.cnt ≤ j
theorem Taken.start {S : Sp} (h : S.Good) : Taken S (Sp.new S.segs S.per) 0 :=
  ⟨new_good _ _ h.inv.segs h.inv.per, rfl, rfl, rfl, rfl, Nat.le_refl _⟩
theorem Taken.step {S T : Sp} {j : Nat} (h : Taken S T j) (hS : S.Good) {p : Pc} (hp : S.ls[j]? = some p) : ∃ T2, T.take p.seg p.pl p.n = (0, T2) ∧ Taken S T2 (j + 1) ∧ T2.take p.seg p.pl p.n = (2, T2) := by
  have hfit := hS.inv.fit p (List.mem_of_getElem? hp)
  have hmay : T.may p.seg p.pl p.n = true := by
    refine Sp.may_iff.2 ⟨?_, fun q hq hh => ?_⟩
    · have h1 := h.segs; have h2 := h.per; have h3 := h.now; omega
    · rw [h.ls] at hq
      obtain ⟨k, hk, rfl⟩ := List.getElem_of_mem hq
      rw [List.length_take] at hk
      rw [List.getElem_take] at hh
      obtain ⟨hj, rfl⟩ := List.getElem?_eq_some_iff.1 hp
      have := (List.pairwise_iff_getElem.1 hS.inv.apart) k j (by omega) hj (by omega) (by omega)
      omega
  have e : T.take p.seg p.pl p.n = (0, T.put p.seg p.pl p.n) := by
    unfold Sp.take
    rw [if_pos hmay]
    simp [Sp.put]
  have hg := h.good.take p.seg p.pl p.n
  rw [e] at hg
  refine ⟨_, e, ⟨hg, h.segs, h.per, h.now, ?_, ?_⟩, ?_⟩
  · show T.ls ++ [_] = _
    rw [h.ls, List.take_add_one, hp]; rfl
  · have := h.cnt; show T.cnt + 1 ≤ j + 1; omega
  · unfold Sp.take
    rw [if_neg]
    intro hm
    have := (Sp.may_iff.1 hm).2 ⟨p.seg, p.pl, p.n⟩ (by show _ ∈ T.ls ++ [_]; simp)
    exact this ⟨rfl, by show (p.pl : Int) < p.pl + p.n; omega, by show (p.pl : Int) < p.pl + p.n; omega⟩
theorem Taken.all {S T : Sp} {j : Nat} (h : Taken S T j) (hj : S.ls.length ≤ j) : T.ls = S.ls := by rw [h.ls]; exact List.take_of_length_le hj
theorem Taken.live {S T : Sp} {j : Nat} (h : Taken S T j) (hj : S.ls.length ≤ j) (i : Int) : T.liveOf i = S.liveOf i := by
  unfold Sp.liveOf; rw [h.all hj, h.segs]

/-! ### SpaceSpare: what is kept when nobody asks with spare -/
/-- A segment is empty that is not being filled. -/
def Sp.has (S : Sp) : Prop := ∃ i, i < S.segs ∧ (i : Int) ≠ S.now ∧ liveN S.ls i = 0
theorem has_new (segs per : Nat) (h : 2 ≤ segs) : (Sp.new segs per).has := ⟨0, by show 0 < segs; omega, by show ((0 : Nat) : Int) ≠ -1; omega, rfl⟩
theorem has_empty {S : Sp} (h : S.has) : 1 ≤ S.empty := by
  obtain ⟨i, hi, hn, h0⟩ := h
  unfold Sp.empty
  rw [emptyOf_eq]
  have hm : i ∈ (List.range S.segs).filter S.isEmpty := List.mem_filter.2 ⟨List.mem_range.2 hi, by simp [Sp.isEmpty, hn, h0]⟩
  exact List.length_pos_of_mem hm
theorem has_drop {S : Sp} (h : S.has) (a b c : Int) : (S.drop a b c).2.has := by
  unfold Sp.drop
  split
  · rename_i ha
    obtain ⟨i, hi, hn, h0⟩ := h
    obtain ⟨q, hq, _⟩ := find_any ha
    have := liveN_eraseP _ hq i
    exact ⟨i, hi, hn, by show liveN (S.ls.eraseP _) i = 0; omega⟩
  · exact h
theorem has_alloc {S : Sp} (hg : S.Good) (h : S.has) (n : Int) : (S.alloc n false).2.2.has := by
  unfold Sp.alloc
  split
  · exact h
  · rename_i hn
    split
    · split
      · exact h
      · rename_i i r hL
        split
        · exact h
        · rename_i hr
          cases r with
          | nil => exact absurd ⟨rfl, rfl⟩ hr
          | cons j r =>
            have hnd : S.free.Nodup := List.Pairwise.filter _ List.nodup_range
            have hij : i ≠ j := by
              rw [hL] at hnd
              intro e
              exact (List.nodup_cons.1 hnd).1 (by simp [e])
            have hj := List.mem_filter.1 (show j ∈ S.free by rw [hL]; simp)
            have hj0 : liveN S.ls j = 0 := by simpa using hj.2
            refine ⟨j, List.mem_range.1 hj.1, by show (j : Int) ≠ (i : Int); omega, ?_⟩
            show liveN (S.ls ++ [(⟨i, 0, n.toNat⟩ : Pc)]) j = 0
            rw [liveN_append, hj0, if_neg hij]
    · obtain ⟨i, hi, hne, h0⟩ := h
      refine ⟨i, hi, by show (i : Int) ≠ ((S.now.toNat : Nat) : Int); omega, ?_⟩
      show liveN (S.ls ++ [(⟨S.now.toNat, S.mark, n.toNat⟩ : Pc)]) i = 0
      rw [liveN_append, h0, if_neg (by show ¬ S.now.toNat = i; omega)]
/-- How many pieces of one sector a space gives for certain. -/
def Sp.room (S : Sp) (k : Nat) : Prop := (0 ≤ S.now ∧ S.mark + k ≤ S.per) ∨ (S.has ∧ k ≤ S.per + (if 0 ≤ S.now then S.per - S.mark else 0))
theorem room_start {S : Sp} (h : S.has) : S.room S.per := .inr ⟨h, Nat.le_add_right _ _⟩
theorem room_step {S : Sp} (hg : S.Good) {k : Nat} (h : S.room (k + 1)) : (S.alloc 1 true).2.1 = 0 ∧ (S.alloc 1 true).2.2.room k := by
  have hper := hg.inv.per
  have hmk := hg.inv.mark
  have hnow := hg.inv.now
  unfold Sp.alloc
  rw [if_neg (by omega)]
  by_cases hq : S.now < 0 ∨ (S.per : Int) < S.mark + 1
  · rw [if_pos hq]
    rcases h with ⟨h1, h2⟩ | ⟨⟨i, hi, hne, h0⟩, hk⟩
    · omega
    · have hm : i ∈ S.free := List.mem_filter.2 ⟨List.mem_range.2 hi, by simp [h0]⟩
      cases hL : S.free with
      | nil => rw [hL] at hm; cases hm
      | cons j r =>
        simp only
        rw [if_neg (by simp)]
        refine ⟨rfl, .inl ⟨by show (0 : Int) ≤ (j : Int); omega, ?_⟩⟩
        show 0 + (1 : Int).toNat + k ≤ S.per
        have : (1 : Int).toNat = 1 := rfl
        split at hk <;> omega
  · rw [if_neg hq]
    refine ⟨rfl, ?_⟩
    have e1 : (1 : Int).toNat = 1 := rfl
    rcases h with ⟨h1, h2⟩ | ⟨⟨i, hi, hne, h0⟩, hk⟩
    · exact .inl ⟨by show (0 : Int) ≤ ((S.now.toNat : Nat) : Int); omega, by show S.mark + (1 : Int).toNat + k ≤ S.per; omega⟩
    · refine .inr ⟨⟨i, hi, by show (i : Int) ≠ ((S.now.toNat : Nat) : Int); omega, ?_⟩, ?_⟩
      · show liveN (S.ls ++ [(⟨S.now.toNat, S.mark, (1 : Int).toNat⟩ : Pc)]) i = 0
        rw [liveN_append, h0, if_neg (by show ¬ S.now.toNat = i; omega)]
      · show k ≤ S.per + (if 0 ≤ ((S.now.toNat : Nat) : Int) then S.per - (S.mark + (1 : Int).toNat) else 0)
        rw [if_pos (by omega)] at hk ⊢
        omega
end Go.Proofs.Ytmicpjdlldjapaa
