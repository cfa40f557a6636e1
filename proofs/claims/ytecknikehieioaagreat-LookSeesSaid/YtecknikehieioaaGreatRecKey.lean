/-
  Records as keys of maps. No condition.
-/
import Derived.Test.YtecknikehieioaaGreatReplay
import Derived.DeepKeys4
namespace Go.Proofs.YtecknikehieioaaGreat
set_option linter.unusedVariables false
set_option linter.unusedSimpArgs false
open Go.RowKit Go.Maps Go.WideMaps

theorem Tryz.laidOut : laidOutB Tryz.prog = true := by kernel_rfl

set_option maxRecDepth 100000 in
theorem rec_key (r : Rec) (h : r.ok) : keyOf Tryz.prog 49 (recV r) = some (.string (keyBytes [.string r.key, .int .u64 (r.lsn : Nat), .bool r.del, .string r.val])) := by
  have hu := Tryz.underlying49
  have u1 := Tryz.underlying9
  have u2 := Tryz.underlying32
  have u3 := Tryz.underlying4
  have hkt : Tryz.prog.keyType 49 = true := by kernel_rfl
  have hc : Tryz.prog.cellsOf 49 = 4 := by kernel_rfl
  have c1 : Tryz.prog.cellsOf 9 = 1 := by kernel_rfl
  have c2 : Tryz.prog.cellsOf 32 = 1 := by kernel_rfl
  have c3 : Tryz.prog.cellsOf 4 = 1 := by kernel_rfl
  obtain ⟨m, hm⟩ : ∃ m, Tryz.prog.types.size = m + 1 := by
    have : (49 : TypeId) < Tryz.prog.types.size := of_decide_eq_true (by kernel_rfl)
    exact Nat.exists_eq_succ_of_ne_zero (fun e => by rw [e] at this; exact Nat.not_lt_zero _ this)
  have hw : (Lit.int .u64 (r.lsn : Nat)).wf = true := by
    have h1 : IntKind.u64.min = 0 := rfl
    have h2 : IntKind.u64.max = 18446744073709551615 := rfl
    have := h.2.2
    simp only [Lit.wf, h1, h2, Bool.and_eq_true, decide_eq_true_eq]
    omega
  have hk1 : (ByteArray.mk r.key.toArray).size ≤ maxLen := by simpa [ByteArray.size] using h.1
  have hv1 : (ByteArray.mk r.val.toArray).size ≤ maxLen := by simpa [ByteArray.size] using h.2.1
  unfold keyOf recV
  simp only [hu]
  rw [if_pos (by simp [hkt, Value.formed, hu, hc]), hm]
  unfold Program.keyLits
  simp only [hu, Value.cells]
  rw [if_pos ⟨by rw [hc]; rfl, by kernel_rfl⟩]
  simp [Program.keyLits, u1, u2, u3, c1, c2, c3, hw, hk1, hv1]
theorem rec_inj {r s : Rec} (h : recV r = recV s) : r = s := by
  unfold recV at h
  injection h with h
  have h := congrArg Array.toList h
  simp only [List.cons.injEq] at h
  obtain ⟨h0, h1, h2, h3, _⟩ := h
  obtain ⟨a, b, c, d⟩ := r
  obtain ⟨a', b', c', d'⟩ := s
  injection h0 with h0; injection h0 with h0; injection h0 with h0
  injection h1 with _ h1
  injection h2 with h2
  injection h3 with h3; injection h3 with h3; injection h3 with h3
  simp only at h0 h1 h2 h3
  subst h0 h2 h3
  have : b = b' := by omega
  subst this
  rfl
theorem rec_law : Keyed Tryz.prog 49 := Keyed.of_law (deep_law_laid Tryz.laidOut (m := 3) (by omega) (of_decide_eq_true (by kernel_rfl)) (by kernel_rfl) (by kernel_rfl))
/-- Keys that are records. -/
def recKey : KeyT 49 Rec where
  val := recV
  lit := fun r => .string (keyBytes [.string r.key, .int .u64 (r.lsn : Nat), .bool r.del, .string r.val])
  ok := Rec.ok
  key := rec_key
  inj := fun x y hx hy e => rec_inj (rec_law.inj (rec_key x hx) (by rw [rec_key y hy, e]))
  law := rec_law
end Go.Proofs.YtecknikehieioaaGreat
