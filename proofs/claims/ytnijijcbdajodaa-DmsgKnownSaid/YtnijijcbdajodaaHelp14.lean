/-
  What the walks of coupletlaw14 share. No condition.
-/
import Derived.Test.YtnijijcbdajodaaLaw14B
namespace Go.Proofs.Ytnijijcbdajodaa
set_option linter.unusedVariables false
set_option linter.unusedSimpArgs false
open Go.RowKit

theorem RecsAt.take {w : World} {p : Option Addr} {n c : Nat} {rs : List Rec} (h : RecsAt w p n c rs) (m : Nat) (hm : m ≤ n) : RecsAt w p m c (rs.take m) := by
  have hl := h.len
  have hc := h.cap
  have hx := h.max
  refine ⟨by rw [List.length_take]; omega, by omega, by omega, fun hn => ?_⟩
  obtain ⟨g, o, e, hg, hi⟩ := h.at_ (by omega)
  refine ⟨g, o, e, hg, fun i hil => ?_⟩
  rw [List.length_take] at hil
  rw [List.getElem_take]
  exact hi i (by omega)
theorem RecsAt.other0 {w : World} {p : Option Addr} {n c : Nat} {rs : List Rec} (h : RecsAt w p n c rs) (a : Addr) (v : Value) (hne : 0 < n → ∀ g o, p = some ⟨g, o, none⟩ → g ≠ a.block) : RecsAt (w.setCell a v) p n c rs := by
  by_cases hn : 0 < n
  · exact h.other a v (hne hn)
  · exact ⟨h.len, h.cap, h.max, fun h0 => absurd h0 hn⟩
theorem xor8 (c d : UInt8) : bits BinOp.xor .u8 (c.toNat : Int) (d.toNat : Int) = ((c ^^^ d).toNat : Int) := by
  rw [u8_xor_nat _ _ c.toNat_lt d.toNat_lt, UInt8.toNat_xor]
theorem xor_other (c d : UInt8) (h : d.toNat ≠ 0) : c ≠ c ^^^ d := by
  intro e
  apply h
  have h1 : c.toNat = c.toNat ^^^ d.toNat := by rw [← UInt8.toNat_xor, ← e]
  have h2 : c.toNat ^^^ c.toNat = c.toNat ^^^ (c.toNat ^^^ d.toNat) := by rw [← h1]
  rw [Nat.xor_self, ← Nat.xor_assoc, Nat.xor_self, Nat.zero_xor] at h2
  exact h2.symm
/-- A message with fewer records. -/
def Msg.cut (m : Msg) (q : Nat) : Msg := { m with recs := m.recs.take q }
theorem Msg.ok.cut {m : Msg} (h : m.ok) (q : Nat) : (m.cut q).ok := ⟨h.kind, h.te, h.di, h.id, h.lsn, h.low, h.key, h.hi, h.val, fun r hr => h.recs r (List.mem_of_mem_take hr), h.err⟩
end Go.Proofs.Ytnijijcbdajodaa
