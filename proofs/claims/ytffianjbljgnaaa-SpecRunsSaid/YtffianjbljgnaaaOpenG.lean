/-
  What comes in: cells that are read one by one are a row. No condition.
-/
import Derived.Test.YtffianjbljgnaaaSortU
import Derived.Test.YtffianjbljgnaaaApp
import Derived.Lib.SmallJoins
import Derived.Deep.Slices
import Derived.Deep.Strs
namespace Go.Proofs.Ytffianjbljgnaaa
set_option linter.unusedVariables false
set_option linter.unusedSimpArgs false
open Go.RowKit

section
variable {H : Type} {enc : TypeId × Value → H} {w : World} {base : Nat} {spare : Nat → Bool} {held : Bool}

theorem list3 {α : Type} {cs : List α} (h : cs.length = 3) : ∃ a b c, cs = [a, b, c] := by
  match cs, h with
  | [a, b, c], _ => exact ⟨a, b, c, rfl⟩
theorem list4 {α : Type} {cs : List α} (h : cs.length = 4) : ∃ a b c d, cs = [a, b, c, d] := by
  match cs, h with
  | [a, b, c, d], _ => exact ⟨a, b, c, d, rfl⟩
theorem cell_spot {a : Addr} {v : Value} (h : w.cell? a = some v) : a.spot = none ∧ a.block < w.heap.size := by
  unfold World.cell? at h
  split at h
  · rename_i hh
    refine ⟨?_, (Array.getElem?_eq_some_iff.1 hh).1⟩
    split at h
    · simp at h
    · rename_i hs; simpa using hs
  · simp at h
theorem flat_get {k : Nat} (F : Nat → List Value) (n : Nat) (hF : ∀ i, i < n → (F i).length = k) (j : Nat) (v : Value) (h : ((List.range n).flatMap F)[j]? = some v) : ∃ i m, i < n ∧ m < k ∧ j = i * k + m ∧ (F i)[m]? = some v := by
  induction n with
  | zero => simp at h
  | succ n ih =>
    have hl : ((List.range n).flatMap F).length = n * k := by
      clear ih h
      induction n with
      | zero => simp
      | succ n ihn =>
        rw [List.range_succ, List.flatMap_append, List.length_append, ihn (fun i hi => hF i (by omega))]
        simp [hF n (by omega), Nat.succ_mul]
    rw [List.range_succ, List.flatMap_append] at h
    by_cases hj : j < n * k
    · rw [List.getElem?_append_left (by rw [hl]; exact hj)] at h
      obtain ⟨i, m, h1, h2⟩ := ih (fun i hi => hF i (by omega)) h
      exact ⟨i, m, by omega, h2⟩
    · rw [List.getElem?_append_right (by rw [hl]; omega), hl] at h
      simp only [List.flatMap_cons, List.flatMap_nil, List.append_nil] at h
      have hm := (List.getElem?_eq_some_iff.1 h).1
      rw [hF n (by omega)] at hm
      exact ⟨n, j - n * k, by omega, hm, by omega, h⟩
theorem flat_length {k : Nat} (F : Nat → List Value) (n : Nat) (hF : ∀ i, i < n → (F i).length = k) : ((List.range n).flatMap F).length = n * k := by
  induction n with
  | zero => simp
  | succ n ihn =>
    rw [List.range_succ, List.flatMap_append, List.length_append, ihn (fun i hi => hF i (by omega))]
    simp [hF n (by omega), Nat.succ_mul]
/-- Elements read one by one are a row. -/
theorem rows_of {k : Nat} (hk : 0 < k) {a : Addr} {n c : Nat} (F : Nat → List Value) (hF : ∀ i, i < n → (F i).length = k ∧ w.cells? base (a.add (i * k)) k = some (F i)) (hc : n ≤ c) (hm : n ≤ 9223372036854775807) : RowsAt w (some a) n c k ((List.range n).flatMap F) := by
  refine ⟨flat_length F n (fun i hi => (hF i hi).1), hc, hm, fun hn => ?_⟩
  have z0 : ∃ v, w.cell? a = some v := by
    obtain ⟨hl, h0⟩ := hF 0 hn
    have := (World.cells?_some h0).2.2 0 hk
    rw [List.getElem?_eq_getElem (by omega)] at this
    rw [Nat.zero_mul] at this
    exact ⟨_, this⟩
  obtain ⟨v0, hv0⟩ := z0
  obtain ⟨hsp, hlt⟩ := cell_spot hv0
  obtain ⟨g, o, sp⟩ := a
  simp only at hsp hlt
  subst hsp
  refine ⟨g, o, rfl, hlt, fun j v hj => ?_⟩
  obtain ⟨i, m, hi, hmk, rfl, hv⟩ := flat_get F n (fun i hi => (hF i hi).1) j v hj
  have := (World.cells?_some (hF i hi).2).2.2 m hmk
  rw [addr_add', addr_add', Nat.add_assoc] at this
  rw [this]
  exact hv
end
end Go.Proofs.Ytffianjbljgnaaa
