/-
  A row of numbers as an array: what it reads, a swap, comparisons. No condition.
-/
import Derived.Test.YtffianjbljgnaaaIsortU
import Derived.Sort.LotA
import Derived.Sort.LotB
import Derived.Sort.LotC
import Derived.Sort.LotD1
import Derived.Sort.LotD3
namespace Go.Proofs.Ytffianjbljgnaaa
set_option linter.unusedVariables false
set_option linter.unusedSimpArgs false
open Go.RowKit

/-- A block whose first cells are an array. -/
def ArrAt (w : World) (g : Nat) (d : Array Nat) (rest : List Value) : Prop := Blk w g (u64s d.toList ++ rest) 29
section
variable {w w' : World} {g : Nat} {d : Array Nat} {rest : List Value}
theorem ArrAt.get (h : ArrAt w g d rest) {i : Nat} (hi : i < d.size) : w.cell? ⟨g, i, none⟩ = some (.int .u64 (d[i]! : Nat)) := by
  rw [Blk.cell h]
  refine u64s_get _ _ _ _ ?_
  rw [Array.getElem?_toList, getElem!_pos d i hi, Array.getElem?_eq_getElem hi]
theorem ArrAt.on (h : ArrAt w g d rest) (hb : Below w.heap.size w w') : ArrAt w' g d rest := Blk.on h hb
theorem ArrAt.lt (h : ArrAt w g d rest) : g < w.heap.size := Blk.lt h
theorem ArrAt.set (h : ArrAt w g d rest) {i : Nat} (hi : i < d.size) (x : Nat) : ArrAt (w.setCell ⟨g, i, none⟩ (.int .u64 (x : Nat))) g (d.setIfInBounds i x) rest := by
  have := Blk.set h i (.int .u64 (x : Nat))
  rw [u64s_set _ _ _ _ (by simpa using hi)] at this
  unfold ArrAt
  rw [Array.toList_setIfInBounds]
  exact this
theorem ArrAt.swap (h : ArrAt w g d rest) {i j : Nat} (hi : i < d.size) (hj : j < d.size) :
    ArrAt ((w.setCell ⟨g, i, none⟩ (.int .u64 (d[j]! : Nat))).setCell ⟨g, j, none⟩ (.int .u64 (d[i]! : Nat))) g (Sort.swp d i j) rest := by
  unfold Sort.swp
  exact (h.set hi _).set (by simpa using hj) _
theorem ArrAt.mod {S : List Nat} (h : ArrAt w g d rest) (hm : Mod S w w') (hn : g ∉ S) : ArrAt w' g d rest := Blk.mod h hm hn
end
/-- What ends with an array in the block, and turned nothing else. -/
def ArrEnd (g : Nat) (d : Array Nat) (rest : List Value) (w : World) (e : Ending) (w' : World) : Prop := e = .returned (.tuple #[]) ∧ ArrAt w' g d rest ∧ Mod [g] w w'
theorem swo64 : Sort.SWO below64 where
  irrefl := fun x => by simp [below64]
  trans := fun x y z h1 h2 => by simp only [below64, decide_eq_true_eq] at *; omega
  ntrans := fun x y z h1 h2 => by simp only [below64, decide_eq_false_iff_not] at *; omega
end Go.Proofs.Ytffianjbljgnaaa
