/-
  The plain law of the scan of a run: what a letter after another gives is what the map has from a key on, below another one. No program here. No condition.
-/
import Derived.Test.YtffianjbljgnaaaDeeds
namespace Go.Proofs.Ytffianjbljgnaaa
set_option linter.unusedVariables false
set_option linter.unusedSimpArgs false
open Go.RowKit

def scanOne (M : List KV) (lo hi s : Txt) : List KV := match look M s with
  | some v => if decide (lo ≤ s) && decide (s < hi) then [(s, v)] else []
  | none => []
def scanP (M : List KV) (lo hi : Txt) (j : Nat) : List KV := (List.range j).flatMap fun t => scanOne M lo hi (letter 97 t)
theorem scanP_succ (M : List KV) (lo hi : Txt) (j : Nat) : scanP M lo hi (j + 1) = scanP M lo hi j ++ scanOne M lo hi (letter 97 j) := by
  unfold scanP
  rw [List.range_succ, List.flatMap_append]
  simp
/-- The keys of a map of letters. -/
def LetM (M : List KV) : Prop := ∀ p ∈ M, ∃ t, t < 6 ∧ p.1 = letter 97 t
theorem LetM.nil : LetM [] := by intro p hp; cases hp
theorem LetM.right {M : List KV} (h : LetM M) (q : MZ) (t : Nat) (ht : t < 6) (hk : q.1.key = letter 97 t) : LetM (rightM M q) := by
  have happ : ∀ r : Rec, r.key = letter 97 t → LetM (app M r) := fun r hr p hp => by
    unfold app at hp
    split at hp
    · exact h p (List.mem_filter.1 hp).1
    · rcases put_mem _ _ _ _ hp with rfl | hp
      · exact ⟨t, ht, hr⟩
      · exact h p hp
  unfold rightM
  split
  · exact happ _ hk
  · split
    · exact happ _ hk
    · exact h
theorem letter_lt {a b : Nat} (hb : b < 6) (h : a < b) : letter 97 a < letter 97 b := by
  have : ∀ b < 6, ∀ a < b, letter 97 a < letter 97 b := by decide
  exact this b hb a h
theorem kv_ext {L L' : List KV} (h : Asc L) (h' : Asc L') (hm : ∀ x, x ∈ L ↔ x ∈ L') : L = L' := by
  unfold Asc at h h'
  induction L generalizing L' with
  | nil =>
    cases L' with
    | nil => rfl
    | cons y t => have := (hm y).2 (by simp); cases this
  | cons x t ih =>
    obtain ⟨h1, h2⟩ := List.pairwise_cons.1 h
    cases L' with
    | nil => have := (hm x).1 (by simp); cases this
    | cons y t' =>
      obtain ⟨h3, h4⟩ := List.pairwise_cons.1 h'
      have e : x = y := by
        have a1 := (hm x).1 (by simp)
        have a2 := (hm y).2 (by simp)
        rcases List.mem_cons.1 a1 with e | a1
        · exact e
        · rcases List.mem_cons.1 a2 with e | a2
          · exact e.symm
          · exact absurd (txt_lt_trans (h3 x a1) (h1 y a2)) (txt_lt_irrefl _)
      subst e
      congr 1
      refine ih h2 h4 fun z => ?_
      have := hm z
      simp only [List.mem_cons] at this
      constructor
      · intro hz
        rcases this.1 (.inr hz) with rfl | hz'
        · exact absurd (h1 z hz) (txt_lt_irrefl _)
        · exact hz'
      · intro hz
        rcases this.2 (.inr hz) with rfl | hz'
        · exact absurd (h3 z hz) (txt_lt_irrefl _)
        · exact hz'
theorem look_mem {M : List KV} {k v : Txt} (h : look M k = some v) : (k, v) ∈ M := by
  induction M with
  | nil => cases h
  | cons p t ih =>
    unfold look at h
    split at h
    · rename_i e
      cases h
      subst e
      simp
    · exact List.mem_cons_of_mem _ (ih h)
theorem scanOne_mem {M : List KV} {lo hi s : Txt} {p : KV} : p ∈ scanOne M lo hi s ↔ p.1 = s ∧ look M s = some p.2 ∧ (decide (lo ≤ s) && decide (s < hi)) = true := by
  unfold scanOne
  cases hl : look M s with
  | none => simp
  | some v =>
    simp only [Option.some.injEq]
    cases hc : decide (lo ≤ s) && decide (s < hi) with
    | true =>
      simp only [if_true, List.mem_singleton, and_true]
      constructor
      · rintro rfl; exact ⟨rfl, rfl⟩
      · rintro ⟨h1, h2⟩; obtain ⟨a, b⟩ := p; simp only at h1 h2; rw [h1, h2]
    | false => simp
theorem scanP_asc (M : List KV) (lo hi : Txt) (j : Nat) (hj : j ≤ 6) : Asc (scanP M lo hi j) ∧ ∀ p ∈ scanP M lo hi j, ∃ t, t < j ∧ p.1 = letter 97 t := by
  induction j with
  | zero => exact ⟨List.Pairwise.nil, by intro p hp; cases hp⟩
  | succ j ih =>
    obtain ⟨h1, h2⟩ := ih (by omega)
    rw [scanP_succ]
    refine ⟨List.pairwise_append.2 ⟨h1, ?_, fun a ha b hb => ?_⟩, fun p hp => ?_⟩
    · unfold scanOne
      split
      · split <;> simp
      · simp
    · obtain ⟨t, ht, e⟩ := h2 a ha
      rw [e, (scanOne_mem.1 hb).1]
      exact letter_lt (by omega) ht
    · rcases List.mem_append.1 hp with hp | hp
      · obtain ⟨t, ht, e⟩ := h2 p hp
        exact ⟨t, by omega, e⟩
      · exact ⟨j, by omega, (scanOne_mem.1 hp).1⟩
/-- All letters: what the map has from a key on, below another one. -/
theorem scanP_sel {M : List KV} (ha : Asc M) (hl : LetM M) (lo hi : Txt) (hhi : hi ≠ []) : scanP M lo hi 6 = sel M lo hi := by
  refine kv_ext (scanP_asc M lo hi 6 (by omega)).1 (List.Pairwise.filter _ ha) fun p => ?_
  have hin : ∀ k, inside lo hi k = (decide (lo ≤ k) && decide (k < hi)) := fun k => by unfold inside; rw [decide_eq_false hhi]; simp
  unfold scanP sel
  rw [List.mem_flatMap, List.mem_filter, hin]
  constructor
  · rintro ⟨t, ht, hp⟩
    obtain ⟨h1, h2, h3⟩ := scanOne_mem.1 hp
    rw [← h1] at h2 h3
    exact ⟨look_mem h2, h3⟩
  · rintro ⟨hp, hc⟩
    obtain ⟨t, ht, e⟩ := hl p hp
    refine ⟨t, List.mem_range.2 ht, scanOne_mem.2 ⟨e, ?_, by rw [← e]; exact hc⟩⟩
    rw [← e]
    exact asc_look ha hp
theorem scanP_length (M : List KV) (lo hi : Txt) (j : Nat) : (scanP M lo hi j).length ≤ j := by
  induction j with
  | zero => exact Nat.le_refl _
  | succ j ih =>
    rw [scanP_succ, List.length_append]
    have : (scanOne M lo hi (letter 97 j)).length ≤ 1 := by
      unfold scanOne
      split
      · split <;> simp
      · simp
    omega
theorem own_base {w : World} {B B' : Nat} {e : TypeId} {size : Nat} {v : Value} {n : Nat} {xs : List Value} (h : w.ownsRow B' e size v n xs) (hB : B ≤ B') : w.ownsRow B e size v n xs := by
  refine ⟨h.1, ?_⟩
  rcases h.2 with h2 | ⟨g, cap, cur, h1, h3, r⟩
  · exact .inl h2
  · exact .inr ⟨g, cap, cur, h1, Nat.le_trans hB h3, r⟩
theorem pair_one (p : KV) : ∀ u ∈ pairCells p, u.oneCell' = true := by
  intro u hu
  simp only [pairCells, List.mem_cons, List.not_mem_nil, or_false] at hu
  rcases hu with rfl | rfl <;> rfl
end Go.Proofs.Ytffianjbljgnaaa
