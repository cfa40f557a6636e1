/-
  No cell of these rows narrows 'for every input' (looked for: loops, veiled, ifaces, maps, wideKeys, modest, calm, conditions, laid).
  DERIVED. THE GIVEN ROWS OF THIS SEAT. 6 by the template 'for every input the law returns true; each argument reads behind the call as it read before'; 0 by the template 'total and deterministic' (their statements: YtjlhkmkjegamdaaTotals.lean).
  GIVEN WITH THE SEED: the statements are not yours to turn. If you find one false, say at which input.
  Laid BY PROGRAM, IN A SANDBOX (cutbox-rows.mjs): the forced cells as the released guide's own fill.sh prints them over the translation 3da0b5caa608b0bd… (all of the seat's roots in one cut). By AI agents, Wed Nov 11 2026. No macro, syntax, notation, axiom, sorry.
-/
import Derived.Test.YtjlhkmkjegamdaaChecked
import GoSem.Claim
import GoSem.ClaimJoined
import GoSem.ClaimMapViews
import Derived.JoinedTies
import Derived.KernelRfl
namespace Go.Proofs.Ytjlhkmkjegamdaa
/- THE CELL 'sum', in the pinned program and in every row, IS THE sha256 OF THE DUMP (.gsa) THAT YtjlhkmkjegamdaaProg.lean LOADS. Nothing in Lean hashes anything: it is a label: what it is worth is what the hold of that sum in a sandbox is worth. -/
noncomputable def Try.pinned : Pinned := { name := "ytjlhkmkjegamdaa", sum := "3da0b5caa608b0bd4317d0ec0515d9c29f5744e764c427dcb8f561885c0a644a", checked := Try.checked }
namespace Rows
def none {H : Type} : Left H := { results := [], args := [] }

/-- 'coupletlaw06.LrecLays': WHATEVER THE INPUT: true; the input reads as it did. -/
def lrecLaysSpec : ChangeSpec := { name := "lrecLays", fn := fun _ => fun
  | [d1, d2] => { results := [.lit (.bool true)], args := [d1, d2] }
  | _ => none }
def lrecLaysRow : OpenClaim := { program := "ytjlhkmkjegamdaa", sum := "3da0b5caa608b0bd4317d0ec0515d9c29f5744e764c427dcb8f561885c0a644a", func := "couplet/coupletlaw06.LrecLays", spec := "lrecLays", unfollowed := true, recurses := true, apart := false }
def LrecLaysSaid : Prop := lrecLaysRow.holds Try.pinned (OpenSpec.ofChange lrecLaysSpec)

/-- ITS FALSE NEIGHBOUR: 'it returns false'. Refute it at one input. -/
def lrecLaysWrong : ChangeSpec := { name := "lrecLays", fn := fun _ => fun
  | [d1, d2] => { results := [.lit (.bool false)], args := [d1, d2] }
  | _ => none }
def LrecLaysWrongFalsely : Prop := lrecLaysRow.holds Try.pinned (OpenSpec.ofChange lrecLaysWrong)

/-- 'coupletlaw06.LrecReads': WHATEVER THE INPUT: true; the input reads as it did. -/
def lrecReadsSpec : ChangeSpec := { name := "lrecReads", fn := fun _ => fun
  | [d] => { results := [.lit (.bool true)], args := [d] }
  | _ => none }
def lrecReadsRow : OpenClaim := { program := "ytjlhkmkjegamdaa", sum := "3da0b5caa608b0bd4317d0ec0515d9c29f5744e764c427dcb8f561885c0a644a", func := "couplet/coupletlaw06.LrecReads", spec := "lrecReads", unfollowed := true, recurses := true, apart := false }
def LrecReadsSaid : Prop := lrecReadsRow.holds Try.pinned (OpenSpec.ofChange lrecReadsSpec)

/-- ITS FALSE NEIGHBOUR: 'it returns false'. Refute it at one input. -/
def lrecReadsWrong : ChangeSpec := { name := "lrecReads", fn := fun _ => fun
  | [d] => { results := [.lit (.bool false)], args := [d] }
  | _ => none }
def LrecReadsWrongFalsely : Prop := lrecReadsRow.holds Try.pinned (OpenSpec.ofChange lrecReadsWrong)

/-- 'coupletlaw06.LrecBack': WHATEVER THE INPUT: true; the input reads as it did. -/
def lrecBackSpec : ChangeSpec := { name := "lrecBack", fn := fun _ => fun
  | [d1, d2] => { results := [.lit (.bool true)], args := [d1, d2] }
  | _ => none }
def lrecBackRow : OpenClaim := { program := "ytjlhkmkjegamdaa", sum := "3da0b5caa608b0bd4317d0ec0515d9c29f5744e764c427dcb8f561885c0a644a", func := "couplet/coupletlaw06.LrecBack", spec := "lrecBack", unfollowed := true, recurses := true, apart := false }
def LrecBackSaid : Prop := lrecBackRow.holds Try.pinned (OpenSpec.ofChange lrecBackSpec)

/-- ITS FALSE NEIGHBOUR: 'it returns false'. Refute it at one input. -/
def lrecBackWrong : ChangeSpec := { name := "lrecBack", fn := fun _ => fun
  | [d1, d2] => { results := [.lit (.bool false)], args := [d1, d2] }
  | _ => none }
def LrecBackWrongFalsely : Prop := lrecBackRow.holds Try.pinned (OpenSpec.ofChange lrecBackWrong)

/-- 'coupletlaw06.LrecSpoilt': WHATEVER THE INPUT: true; the input reads as it did. -/
def lrecSpoiltSpec : ChangeSpec := { name := "lrecSpoilt", fn := fun _ => fun
  | [d1, d2, d3] => { results := [.lit (.bool true)], args := [d1, d2, d3] }
  | _ => none }
def lrecSpoiltRow : OpenClaim := { program := "ytjlhkmkjegamdaa", sum := "3da0b5caa608b0bd4317d0ec0515d9c29f5744e764c427dcb8f561885c0a644a", func := "couplet/coupletlaw06.LrecSpoilt", spec := "lrecSpoilt", unfollowed := true, recurses := true, apart := false }
def LrecSpoiltSaid : Prop := lrecSpoiltRow.holds Try.pinned (OpenSpec.ofChange lrecSpoiltSpec)

/-- ITS FALSE NEIGHBOUR: 'it returns false'. Refute it at one input. -/
def lrecSpoiltWrong : ChangeSpec := { name := "lrecSpoilt", fn := fun _ => fun
  | [d1, d2, d3] => { results := [.lit (.bool false)], args := [d1, d2, d3] }
  | _ => none }
def LrecSpoiltWrongFalsely : Prop := lrecSpoiltRow.holds Try.pinned (OpenSpec.ofChange lrecSpoiltWrong)

/-- 'coupletlaw06.LrecCut': WHATEVER THE INPUT: true; the input reads as it did. -/
def lrecCutSpec : ChangeSpec := { name := "lrecCut", fn := fun _ => fun
  | [d1, d2] => { results := [.lit (.bool true)], args := [d1, d2] }
  | _ => none }
def lrecCutRow : OpenClaim := { program := "ytjlhkmkjegamdaa", sum := "3da0b5caa608b0bd4317d0ec0515d9c29f5744e764c427dcb8f561885c0a644a", func := "couplet/coupletlaw06.LrecCut", spec := "lrecCut", unfollowed := true, recurses := true, apart := false }
def LrecCutSaid : Prop := lrecCutRow.holds Try.pinned (OpenSpec.ofChange lrecCutSpec)

/-- ITS FALSE NEIGHBOUR: 'it returns false'. Refute it at one input. -/
def lrecCutWrong : ChangeSpec := { name := "lrecCut", fn := fun _ => fun
  | [d1, d2] => { results := [.lit (.bool false)], args := [d1, d2] }
  | _ => none }
def LrecCutWrongFalsely : Prop := lrecCutRow.holds Try.pinned (OpenSpec.ofChange lrecCutWrong)

/-- 'coupletlaw06.LrecKnown': WHATEVER THE INPUT: true; the input reads as it did. -/
def lrecKnownSpec : ChangeSpec := { name := "lrecKnown", fn := fun _ => fun
  | [] => { results := [.lit (.bool true)], args := [] }
  | _ => none }
def lrecKnownRow : OpenClaim := { program := "ytjlhkmkjegamdaa", sum := "3da0b5caa608b0bd4317d0ec0515d9c29f5744e764c427dcb8f561885c0a644a", func := "couplet/coupletlaw06.LrecKnown", spec := "lrecKnown", unfollowed := true, recurses := true, apart := false }
def LrecKnownSaid : Prop := lrecKnownRow.holds Try.pinned (OpenSpec.ofChange lrecKnownSpec)

/-- ITS FALSE NEIGHBOUR: 'it returns false'. Refute it at one input. -/
def lrecKnownWrong : ChangeSpec := { name := "lrecKnown", fn := fun _ => fun
  | [] => { results := [.lit (.bool false)], args := [] }
  | _ => none }
def LrecKnownWrongFalsely : Prop := lrecKnownRow.holds Try.pinned (OpenSpec.ofChange lrecKnownWrong)

/- THE SECOND FORM. 'bulk': how many values and letters a reading holds, each counted each time it is reached (what is shared counts as often as it is met; a slice's spare places count too). A statement '..UptoSaid' is the law's where the arguments, and the package variables that the reading takes, are together of bulk at most 1048576: NARROWER than '..Said'. Prove '..Said' where nothing that the law and all that it calls make is longer than what came in: it says more and counts as full. Else prove '..UptoSaid'. A law counts once. -/
mutual
def uptoBulk {H : Type} : DataW H → Nat
  | .lit (.string bytes) => bytes.length + 1
  | .lit _ => 1
  | .nil => 1
  | .ptr d => uptoBulk d + 1
  | .slice elems spare => uptoBulkAll elems + uptoBulkAll spare + 1
  | .agg parts => uptoBulkAll parts + 1
  | .iface _ d => uptoBulk d + 1
  | .map entries => uptoBulkEntries entries + 1
  | .held _ => 1
def uptoBulkAll {H : Type} : List (DataW H) → Nat
  | [] => 0
  | d :: r => uptoBulk d + uptoBulkAll r
def uptoBulkEntries {H : Type} : List (Lit × DataW H) → Nat
  | [] => 0
  | x :: r => uptoBulkEntry x + uptoBulkEntries r
def uptoBulkEntry {H : Type} : Lit × DataW H → Nat
  | (.string bytes, d) => bytes.length + uptoBulk d + 1
  | (_, d) => uptoBulk d + 1
 end
def uptoSmall : (H : Type) → List (DataW H) → Bool := fun _ ds => decide (uptoBulkAll ds ≤ 1048576)
def OpenSpec.upto (s : _root_.Go.ChangeSpec) : _root_.Go.OpenSpec := { _root_.Go.OpenSpec.ofChange s with cond := some uptoSmall }

/-- 'coupletlaw06.LrecLays', WHERE WHAT IT READS IS OF BULK AT MOST 1048576: true; the input reads as it did. -/
def lrecLaysUptoRow : OpenClaim := { program := "ytjlhkmkjegamdaa", sum := "3da0b5caa608b0bd4317d0ec0515d9c29f5744e764c427dcb8f561885c0a644a", func := "couplet/coupletlaw06.LrecLays", spec := "lrecLays", unfollowed := true, recurses := true, apart := false, narrowed := true }
def LrecLaysUptoSaid : Prop := lrecLaysUptoRow.holds Try.pinned (OpenSpec.upto lrecLaysSpec)

/-- 'coupletlaw06.LrecReads', WHERE WHAT IT READS IS OF BULK AT MOST 1048576: true; the input reads as it did. -/
def lrecReadsUptoRow : OpenClaim := { program := "ytjlhkmkjegamdaa", sum := "3da0b5caa608b0bd4317d0ec0515d9c29f5744e764c427dcb8f561885c0a644a", func := "couplet/coupletlaw06.LrecReads", spec := "lrecReads", unfollowed := true, recurses := true, apart := false, narrowed := true }
def LrecReadsUptoSaid : Prop := lrecReadsUptoRow.holds Try.pinned (OpenSpec.upto lrecReadsSpec)

/-- 'coupletlaw06.LrecBack', WHERE WHAT IT READS IS OF BULK AT MOST 1048576: true; the input reads as it did. -/
def lrecBackUptoRow : OpenClaim := { program := "ytjlhkmkjegamdaa", sum := "3da0b5caa608b0bd4317d0ec0515d9c29f5744e764c427dcb8f561885c0a644a", func := "couplet/coupletlaw06.LrecBack", spec := "lrecBack", unfollowed := true, recurses := true, apart := false, narrowed := true }
def LrecBackUptoSaid : Prop := lrecBackUptoRow.holds Try.pinned (OpenSpec.upto lrecBackSpec)

/-- 'coupletlaw06.LrecSpoilt', WHERE WHAT IT READS IS OF BULK AT MOST 1048576: true; the input reads as it did. -/
def lrecSpoiltUptoRow : OpenClaim := { program := "ytjlhkmkjegamdaa", sum := "3da0b5caa608b0bd4317d0ec0515d9c29f5744e764c427dcb8f561885c0a644a", func := "couplet/coupletlaw06.LrecSpoilt", spec := "lrecSpoilt", unfollowed := true, recurses := true, apart := false, narrowed := true }
def LrecSpoiltUptoSaid : Prop := lrecSpoiltUptoRow.holds Try.pinned (OpenSpec.upto lrecSpoiltSpec)

/-- 'coupletlaw06.LrecCut', WHERE WHAT IT READS IS OF BULK AT MOST 1048576: true; the input reads as it did. -/
def lrecCutUptoRow : OpenClaim := { program := "ytjlhkmkjegamdaa", sum := "3da0b5caa608b0bd4317d0ec0515d9c29f5744e764c427dcb8f561885c0a644a", func := "couplet/coupletlaw06.LrecCut", spec := "lrecCut", unfollowed := true, recurses := true, apart := false, narrowed := true }
def LrecCutUptoSaid : Prop := lrecCutUptoRow.holds Try.pinned (OpenSpec.upto lrecCutSpec)

/-- 'coupletlaw06.LrecKnown', WHERE WHAT IT READS IS OF BULK AT MOST 1048576: true; the input reads as it did. -/
def lrecKnownUptoRow : OpenClaim := { program := "ytjlhkmkjegamdaa", sum := "3da0b5caa608b0bd4317d0ec0515d9c29f5744e764c427dcb8f561885c0a644a", func := "couplet/coupletlaw06.LrecKnown", spec := "lrecKnown", unfollowed := true, recurses := true, apart := false, narrowed := true }
def LrecKnownUptoSaid : Prop := lrecKnownUptoRow.holds Try.pinned (OpenSpec.upto lrecKnownSpec)

end Rows
end Go.Proofs.Ytjlhkmkjegamdaa
