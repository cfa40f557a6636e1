/-
  What an api.Entry that comes in is: its operations are rows of records with sizes that a machine has. No condition.
-/
import Derived.Test.YtjlhkmkjegamdaaPlain6
import Derived.Lib.SmallJoins
import Derived.Deep.Slices
namespace Go.Proofs.Ytjlhkmkjegamdaa
set_option linter.unusedVariables false
set_option linter.unusedSimpArgs false
open Go.RowKit

section
variable {H : Type} {enc : TypeId × Value → H} {w : World} {base : Nat} {spare : Nat → Bool} {held : Bool}

theorem list4 {α : Type} {cs : List α} (h : cs.length = 4) : ∃ a b c d, cs = [a, b, c, d] := by
  match cs, h with
  | [a, b, c, d], _ => exact ⟨a, b, c, d, rfl⟩

theorem open_rec {fuel : Nat} {cs : List Value} {x : DataW H × List MemPlace} (h : DataW.trod enc Try.prog w base spare held fuel 24 cs = some x) : ∃ r : Rec, cs = recCells r ∧ r.ok := by
  obtain ⟨y0, y1, y2, y3, n, rfl, hl, h0, h1, h2, h3⟩ := Joins.trod_struct4 Try.underlying24 h
  have hc : Try.prog.cellsOf 24 = 4 := by kernel_rfl
  obtain ⟨a, b, c, d, rfl⟩ := list4 (hl.trans hc)
  have c1 : Try.prog.cellsOf 9 = 1 := by kernel_rfl
  have c2 : Try.prog.cellsOf 22 = 1 := by kernel_rfl
  have c3 : Try.prog.cellsOf 4 = 1 := by kernel_rfl
  simp only [c1, c2, c3] at h0 h1 h2 h3
  obtain ⟨s0, e0, _, l0⟩ := DataW.trod_string Try.underlying9 h0
  obtain ⟨s1, e1, _, l1⟩ := DataW.trod_int Try.underlying22 h1
  obtain ⟨s2, e2, _⟩ := DataW.trod_bool Try.underlying4 h2
  obtain ⟨s3, e3, _, l3⟩ := DataW.trod_string Try.underlying9 h3
  simp only [List.drop_zero, List.drop_succ_cons, List.take_succ_cons, List.take_zero, List.cons.injEq, and_true] at e0 e1 e2 e3
  subst e0 e1 e2 e3
  have hb := bounds_u64 l1
  obtain ⟨m, rfl⟩ := Int.eq_ofNat_of_zero_le hb.1
  refine ⟨⟨s0.data.toList, m, s2, s3.data.toList⟩, ?_, ?_, ?_, ?_⟩
  · cases s0; cases s3; simp [recCells]
  · have : s0.data.toList.length = s0.size := by cases s0; simp [ByteArray.size]
    rw [this]; exact l0
  · have : s3.data.toList.length = s3.size := by cases s3; simp [ByteArray.size]
    rw [this]; exact l3
  · have := hb.2
    show m < 18446744073709551616
    omega

theorem cells4 {a : Addr} {c0 c1 c2 c3 : Value} (h : w.cells? base a 4 = some [c0, c1, c2, c3]) : w.cell? a = some c0 ∧ w.cell? (a.add 1) = some c1 ∧ w.cell? (a.add 2) = some c2 ∧ w.cell? (a.add 3) = some c3 := by
  unfold World.cells? at h
  split at h
  · have e : List.range 4 = [0, 1, 2, 3] := rfl
    have e0 : a.add 0 = a := rfl
    rw [e] at h
    simp only [List.mapM_cons, List.mapM_nil, e0] at h
    cases h0 : w.cell? a with
    | none => rw [h0] at h; simp at h
    | some v0 =>
      cases h1 : w.cell? (a.add 1) with
      | none => rw [h0, h1] at h; simp at h
      | some v1 =>
        cases h2 : w.cell? (a.add 2) with
        | none => rw [h0, h1, h2] at h; simp at h
        | some v2 =>
          cases h3 : w.cell? (a.add 3) with
          | none => rw [h0, h1, h2, h3] at h; simp at h
          | some v3 =>
            rw [h0, h1, h2, h3] at h
            simp at h
            obtain ⟨rfl, rfl, rfl, rfl⟩ := h
            exact ⟨rfl, rfl, rfl, rfl⟩
  · simp at h
theorem cell_spot {a : Addr} {v : Value} (h : w.cell? a = some v) : a.spot = none ∧ a.block < w.heap.size := by
  unfold World.cell? at h
  split at h
  · rename_i hh
    refine ⟨?_, (Array.getElem?_eq_some_iff.1 hh).1⟩
    split at h
    · simp at h
    · rename_i hs; simpa using hs
  · simp at h

instance : Inhabited Rec := ⟨⟨[], 0, false, []⟩⟩
theorem open_recs {fuel : Nat} {v : Value} {x : DataW H × List MemPlace} (h : DataW.trod enc Try.prog w base spare held fuel 25 [v] = some x) :
    ∃ a n c rs, v = .slice a n c ∧ RecsAt w a n c rs ∧ ∀ r ∈ rs, r.ok := by
  rcases Deep.open_slice Try.underlying25 h with ⟨e, _⟩ | ⟨a, n, c, m, k, D, Pl, e, hb, hl, hm, hmm, _, hel⟩
  · simp only [List.cons.injEq, and_true] at e
    subst e
    exact ⟨none, 0, 0, [], rfl, ⟨rfl, Nat.le_refl _, by omega, fun h0 => absurd h0 (Nat.lt_irrefl 0)⟩, by simp⟩
  · simp only [List.cons.injEq, and_true] at e
    subst e
    have hc : Try.prog.cellsOf 24 = 4 := by kernel_rfl
    have hnm : n ≤ m := by rw [hmm]; split <;> omega
    have hrec : ∀ i, i < n → ∃ r : Rec, r.ok ∧ w.cells? base (a.add (i * 4)) 4 = some (recCells r) := by
      intro i hi
      obtain ⟨cs', h1, h2⟩ := hel i (by omega)
      obtain ⟨r, rfl, hr⟩ := open_rec h2
      rw [hc] at h1
      exact ⟨r, hr, h1⟩
    obtain ⟨F, hF⟩ := Deep.choose_lt hrec
    refine ⟨some a, n, c, (List.range n).map F, rfl, ⟨by simp, hl, by unfold maxLen at hm; omega, fun hn => ?_⟩, ?_⟩
    · have h0 := (hF 0 hn).2
      obtain ⟨z0, _⟩ := cells4 h0
      rw [show a.add (0 * 4) = a from rfl] at z0
      obtain ⟨hsp, hlt⟩ := cell_spot z0
      obtain ⟨g, o, sp⟩ := a
      simp only at hsp hlt
      subst hsp
      refine ⟨g, o, rfl, hlt, fun i hi => ?_⟩
      rw [List.length_map, List.length_range] at hi
      obtain ⟨z0, z1, z2, z3⟩ := cells4 (hF i hi).2
      have ha : ∀ j, (⟨g, o, none⟩ : Addr).add j = ⟨g, o + j, none⟩ := by intro j; unfold Addr.add; split <;> simp_all
      simp only [ha, Nat.add_assoc] at z0 z1 z2 z3 ⊢
      simp only [List.getElem_map, List.getElem_range]
      exact ⟨z0, z1, z2, z3⟩
    · intro r hr
      simp only [List.mem_map, List.mem_range] at hr
      obtain ⟨i, hi, rfl⟩ := hr
      exact (hF i hi).1
end
end Go.Proofs.Ytjlhkmkjegamdaa
