/-
  A row of ints as an array: what it reads, a swap. No condition.
-/
import Derived.Test.YtffianjbljgnaaaGreatInsI
import Derived.Test.YtffianjbljgnaaaGreatSymP
namespace Go.Proofs.YtffianjbljgnaaaGreat
set_option linter.unusedVariables false
set_option linter.unusedSimpArgs false
open Go.RowKit
/-- A block whose first cells are an array. -/
def ArrI (w : World) (g : Nat) (d : Array Nat) (rest : List Value) : Prop := Blk w g (i64s d.toList ++ rest) 3
section
variable {w w' : World} {g : Nat} {d : Array Nat} {rest : List Value}
theorem ArrI.get (h : ArrI w g d rest) {i : Nat} (hi : i < d.size) : w.cell? ⟨g, i, none⟩ = some (.int .i64 (d[i]! : Nat)) := by
  rw [Blk.cell h]
  refine i64s_get _ _ _ _ ?_
  rw [Array.getElem?_toList, getElem!_pos d i hi, Array.getElem?_eq_getElem hi]
theorem ArrI.on (h : ArrI w g d rest) (hb : Below w.heap.size w w') : ArrI w' g d rest := Blk.on h hb
theorem ArrI.lt (h : ArrI w g d rest) : g < w.heap.size := Blk.lt h
theorem ArrI.set (h : ArrI w g d rest) {i : Nat} (hi : i < d.size) (x : Nat) : ArrI (w.setCell ⟨g, i, none⟩ (.int .i64 (x : Nat))) g (d.setIfInBounds i x) rest := by
  have := Blk.set h i (.int .i64 (x : Nat))
  rw [i64s_set _ _ _ _ (by simpa using hi)] at this
  unfold ArrI
  rw [Array.toList_setIfInBounds]
  exact this
theorem ArrI.swap (h : ArrI w g d rest) {i j : Nat} (hi : i < d.size) (hj : j < d.size) :
    ArrI ((w.setCell ⟨g, i, none⟩ (.int .i64 (d[j]! : Nat))).setCell ⟨g, j, none⟩ (.int .i64 (d[i]! : Nat))) g (Sort.swp d i j) rest := by
  unfold Sort.swp
  exact (h.set hi _).set (by simpa using hj) _
theorem ArrI.mod {S : List Nat} (h : ArrI w g d rest) (hm : Mod S w w') (hn : g ∉ S) : ArrI w' g d rest := Blk.mod h hm hn
end
/-- What ends with an array in the block, and turned nothing else. -/
def ArrIEnd (g : Nat) (d : Array Nat) (rest : List Value) (w : World) (e : Ending) (w' : World) : Prop := e = .returned (.tuple #[]) ∧ ArrI w' g d rest ∧ Mod [g] w w'
end Go.Proofs.YtffianjbljgnaaaGreat
