/-
  What a list of things to be done that comes in is. No condition.
-/
import Derived.Test.YtmicpjdlldjapaaSpD
import Derived.Deep.Strs
import Derived.Deep.Slices
import Derived.OpenShut
namespace Go.Proofs.Ytmicpjdlldjapaa
set_option linter.unusedVariables false
set_option linter.unusedSimpArgs false
open Go.RowKit

section
variable {H : Type} {enc : TypeId × Value → H} {w : World} {base : Nat} {spare : Nat → Bool} {held : Bool}
theorem list3 {α : Type} {cs : List α} (h : cs.length = 3) : ∃ a b c, cs = [a, b, c] := by
  match cs, h with
  | [a, b, c], _ => exact ⟨a, b, c, rfl⟩
theorem open_do {fuel : Nat} {cs : List Value} {x : DataW H × List MemPlace} (h : DataW.trod enc Try.prog w base spare held fuel 45 cs = some x) : ∃ d : Do, cs = [.bool d.free, .int .u8 d.n, .bool d.spare] ∧ d.n < 256 := by
  obtain ⟨y0, y1, y2, n, rfl, hl, h0, h1, h2⟩ := Deep.trod_struct3 Try.underlying45 h
  have hc : Try.prog.cellsOf 45 = 3 := by kernel_rfl
  obtain ⟨a, b, c, rfl⟩ := list3 (hl.trans hc)
  have c1 : Try.prog.cellsOf 4 = 1 := by kernel_rfl
  have c2 : Try.prog.cellsOf 5 = 1 := by kernel_rfl
  simp only [c1, c2] at h0 h1 h2
  obtain ⟨s0, e0, _⟩ := DataW.trod_bool Try.underlying4 h0
  obtain ⟨s1, e1, _, l1⟩ := DataW.trod_int Try.underlying5 h1
  obtain ⟨s2, e2, _⟩ := DataW.trod_bool Try.underlying4 h2
  simp only [List.drop_zero, List.drop_succ_cons, List.take_succ_cons, List.take_zero, List.cons.injEq, and_true] at e0 e1 e2
  subst e0 e1 e2
  have hb := bounds_u8 l1
  obtain ⟨m, rfl⟩ := Int.eq_ofNat_of_zero_le hb.1
  exact ⟨⟨s0, m, s2⟩, rfl, by have := hb.2; show m < 256; omega⟩
theorem cells3 {a : Addr} {c0 c1 c2 : Value} (h : w.cells? base a 3 = some [c0, c1, c2]) : w.cell? a = some c0 ∧ w.cell? (a.add 1) = some c1 ∧ w.cell? (a.add 2) = some c2 := by
  unfold World.cells? at h
  split at h
  · have e : List.range 3 = [0, 1, 2] := rfl
    have e0 : a.add 0 = a := rfl
    rw [e] at h
    simp only [List.mapM_cons, List.mapM_nil, e0] at h
    cases h0 : w.cell? a with
    | none => rw [h0] at h; simp at h
    | some v0 =>
      cases h1 : w.cell? (a.add 1) with
      | none => rw [h0, h1] at h; simp at h
      | some v1 =>
        cases h2 : w.cell? (a.add 2) with
        | none => rw [h0, h1, h2] at h; simp at h
        | some v2 =>
          rw [h0, h1, h2] at h
          simp at h
          obtain ⟨rfl, rfl, rfl⟩ := h
          exact ⟨rfl, rfl, rfl⟩
  · simp at h
theorem cell_spot {a : Addr} {v : Value} (h : w.cell? a = some v) : a.spot = none ∧ a.block < w.heap.size := by
  unfold World.cell? at h
  split at h
  · rename_i hh
    refine ⟨?_, (Array.getElem?_eq_some_iff.1 hh).1⟩
    split at h
    · simp at h
    · rename_i hs; simpa using hs
  · simp at h
instance : Inhabited Do := ⟨⟨false, 0, false⟩⟩
theorem open_dos {fuel : Nat} {cs : List Value} {x : DataW H × List MemPlace} (h : DataW.trod enc Try.prog w base spare held fuel 43 cs = some x) :
    ∃ a n c ds, cs = [.slice a n c] ∧ DosAt w a n c ds := by
  rcases Deep.open_slice Try.underlying43 h with ⟨e, _⟩ | ⟨a, n, c, m, k, D, Pl, e, hb, hl, hm, hmm, _, hel⟩
  · exact ⟨none, 0, 0, [], e, rfl, Nat.le_refl _, by omega, fun i d hd => by simp at hd⟩
  · have hc : Try.prog.cellsOf 45 = 3 := by kernel_rfl
    have hnm : n ≤ m := by rw [hmm]; split <;> omega
    have hrec : ∀ i, i < n → ∃ r : Do, r.n < 256 ∧ w.cells? base (a.add (i * 3)) 3 = some [.bool r.free, .int .u8 r.n, .bool r.spare] := by
      intro i hi
      obtain ⟨cs', h1, h2⟩ := hel i (by omega)
      obtain ⟨r, rfl, hr⟩ := open_do h2
      rw [hc] at h1
      exact ⟨r, hr, h1⟩
    obtain ⟨F, hF⟩ := Deep.choose_lt hrec
    refine ⟨some a, n, c, (List.range n).map F, e, by simp, hl, by unfold maxLen at hm; omega, fun i d hd => ?_⟩
    have hi : i < n := by simpa using (List.getElem?_eq_some_iff.1 hd).1
    rw [List.getElem?_map, List.getElem?_range hi] at hd
    cases hd
    refine ⟨(hF i hi).1, ?_⟩
    obtain ⟨z0, z1, z2⟩ := cells3 (hF i hi).2
    obtain ⟨y0, _⟩ := cells3 (hF 0 (by omega)).2
    rw [show a.add (0 * 3) = a from rfl] at y0
    obtain ⟨hsp, hlt⟩ := cell_spot y0
    obtain ⟨g, o, sp⟩ := a
    simp only at hsp hlt
    subst hsp
    simp only [addr_add, Nat.add_assoc] at z0 z1 z2 ⊢
    exact ⟨g, o, rfl, hlt, z0, z1, z2⟩
end
end Go.Proofs.Ytmicpjdlldjapaa
