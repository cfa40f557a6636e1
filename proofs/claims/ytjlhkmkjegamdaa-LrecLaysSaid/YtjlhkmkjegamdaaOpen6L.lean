/-
  What an api.Rec that comes in by value is. No condition.
-/
import Derived.Test.YtjlhkmkjegamdaaOpen6
namespace Go.Proofs.Ytjlhkmkjegamdaa
set_option linter.unusedVariables false
set_option linter.unusedSimpArgs false
open Go.RowKit

theorem open_recV {H : Type} {enc : TypeId × Value → H} {w : World} {base : Nat} {spare : Nat → Bool} {held : Bool} {rch : Reach} {b0 : Nat} {v : Value} {d : DataW H} {p : List MemPlace} (hv : Value.okWide Try.prog w rch b0 24 v) (h : DataW.Trod enc Try.prog w base spare held 24 v d p) :
    ∃ r : Rec, v = recV r ∧ r.ok := by
  obtain ⟨u0, u1, u2, u3, y0, y1, y2, y3, n, rfl, _, _, t0, t1, t2, t3⟩ := Joins.open_agg4 Try.underlying24 (by kernel_rfl) (by kernel_rfl) hv h
  obtain ⟨s0, e0, _, l0⟩ := DataW.trod_string Try.underlying9 t0
  obtain ⟨s1, e1, _, l1⟩ := DataW.trod_int Try.underlying22 t1
  obtain ⟨s2, e2, _⟩ := DataW.trod_bool Try.underlying4 t2
  obtain ⟨s3, e3, _, l3⟩ := DataW.trod_string Try.underlying9 t3
  simp only [List.cons.injEq, and_true] at e0 e1 e2 e3
  subst e0 e1 e2 e3
  have hb := bounds_u64 l1
  obtain ⟨m, rfl⟩ := Int.eq_ofNat_of_zero_le hb.1
  refine ⟨⟨s0.data.toList, m, s2, s3.data.toList⟩, ?_, ?_, ?_, ?_⟩
  · cases s0; cases s3; simp [recV]
  · have : s0.data.toList.length = s0.size := by cases s0; simp [ByteArray.size]
    rw [this]; exact l0
  · have : s3.data.toList.length = s3.size := by cases s3; simp [ByteArray.size]
    rw [this]; exact l3
  · have := hb.2
    show m < 18446744073709551616
    omega
end Go.Proofs.Ytjlhkmkjegamdaa
