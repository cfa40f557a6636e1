/-
  No cell of these rows narrows 'for every input' (looked for: loops, veiled, ifaces, maps, wideKeys, modest, calm, conditions, laid).
  DERIVED. THE GIVEN ROWS OF THIS SEAT. 5 by the template 'for every input the law returns true; each argument reads behind the call as it read before'; 0 by the template 'total and deterministic' (their statements: YtnijijcbdajodaaTotals.lean).
  GIVEN WITH THE SEED: the statements are not yours to turn. If you find one false, say at which input.
  Laid BY PROGRAM, IN A SANDBOX (cutbox-rows.mjs): the forced cells as the released guide's own fill.sh prints them over the translation 3a2a18117c6467e3… (all of the seat's roots in one cut). By AI agents, Wed Nov 11 2026. No macro, syntax, notation, axiom, sorry.
-/
import Derived.Test.YtnijijcbdajodaaChecked
import GoSem.Claim
import GoSem.ClaimJoined
import GoSem.ClaimMapViews
import Derived.JoinedTies
import Derived.KernelRfl
namespace Go.Proofs.Ytnijijcbdajodaa
/- THE CELL 'sum', in the pinned program and in every row, IS THE sha256 OF THE DUMP (.gsa) THAT YtnijijcbdajodaaProg.lean LOADS. Nothing in Lean hashes anything: it is a label: what it is worth is what the hold of that sum in a sandbox is worth. -/
noncomputable def Try.pinned : Pinned := { name := "ytnijijcbdajodaa", sum := "3a2a18117c6467e34fdf82616a65ab568d0b718f1b67bee682303df403249a44", checked := Try.checked }
namespace Rows
def none {H : Type} : Left H := { results := [], args := [] }

/-- 'coupletlaw14.DmsgLays': WHATEVER THE INPUT: true; the input reads as it did. -/
def dmsgLaysSpec : ChangeSpec := { name := "dmsgLays", fn := fun _ => fun
  | [d] => { results := [.lit (.bool true)], args := [d] }
  | _ => none }
def dmsgLaysRow : OpenClaim := { program := "ytnijijcbdajodaa", sum := "3a2a18117c6467e34fdf82616a65ab568d0b718f1b67bee682303df403249a44", func := "couplet/coupletlaw14.DmsgLays", spec := "dmsgLays", unfollowed := true, recurses := true, apart := false }
def DmsgLaysSaid : Prop := dmsgLaysRow.holds Try.pinned (OpenSpec.ofChange dmsgLaysSpec)

/-- ITS FALSE NEIGHBOUR: 'it returns false'. Refute it at one input. -/
def dmsgLaysWrong : ChangeSpec := { name := "dmsgLays", fn := fun _ => fun
  | [d] => { results := [.lit (.bool false)], args := [d] }
  | _ => none }
def DmsgLaysWrongFalsely : Prop := dmsgLaysRow.holds Try.pinned (OpenSpec.ofChange dmsgLaysWrong)

/-- 'coupletlaw14.DmsgReads': WHATEVER THE INPUT: true; the input reads as it did. -/
def dmsgReadsSpec : ChangeSpec := { name := "dmsgReads", fn := fun _ => fun
  | [d] => { results := [.lit (.bool true)], args := [d] }
  | _ => none }
def dmsgReadsRow : OpenClaim := { program := "ytnijijcbdajodaa", sum := "3a2a18117c6467e34fdf82616a65ab568d0b718f1b67bee682303df403249a44", func := "couplet/coupletlaw14.DmsgReads", spec := "dmsgReads", unfollowed := true, recurses := true, apart := false }
def DmsgReadsSaid : Prop := dmsgReadsRow.holds Try.pinned (OpenSpec.ofChange dmsgReadsSpec)

/-- ITS FALSE NEIGHBOUR: 'it returns false'. Refute it at one input. -/
def dmsgReadsWrong : ChangeSpec := { name := "dmsgReads", fn := fun _ => fun
  | [d] => { results := [.lit (.bool false)], args := [d] }
  | _ => none }
def DmsgReadsWrongFalsely : Prop := dmsgReadsRow.holds Try.pinned (OpenSpec.ofChange dmsgReadsWrong)

/-- 'coupletlaw14.DmsgBack': WHATEVER THE INPUT: true; the input reads as it did. -/
def dmsgBackSpec : ChangeSpec := { name := "dmsgBack", fn := fun _ => fun
  | [d1, d2] => { results := [.lit (.bool true)], args := [d1, d2] }
  | _ => none }
def dmsgBackRow : OpenClaim := { program := "ytnijijcbdajodaa", sum := "3a2a18117c6467e34fdf82616a65ab568d0b718f1b67bee682303df403249a44", func := "couplet/coupletlaw14.DmsgBack", spec := "dmsgBack", unfollowed := true, recurses := true, apart := false }
def DmsgBackSaid : Prop := dmsgBackRow.holds Try.pinned (OpenSpec.ofChange dmsgBackSpec)

/-- ITS FALSE NEIGHBOUR: 'it returns false'. Refute it at one input. -/
def dmsgBackWrong : ChangeSpec := { name := "dmsgBack", fn := fun _ => fun
  | [d1, d2] => { results := [.lit (.bool false)], args := [d1, d2] }
  | _ => none }
def DmsgBackWrongFalsely : Prop := dmsgBackRow.holds Try.pinned (OpenSpec.ofChange dmsgBackWrong)

/-- 'coupletlaw14.DmsgSpoilt': WHATEVER THE INPUT: true; the input reads as it did. -/
def dmsgSpoiltSpec : ChangeSpec := { name := "dmsgSpoilt", fn := fun _ => fun
  | [d1, d2, d3] => { results := [.lit (.bool true)], args := [d1, d2, d3] }
  | _ => none }
def dmsgSpoiltRow : OpenClaim := { program := "ytnijijcbdajodaa", sum := "3a2a18117c6467e34fdf82616a65ab568d0b718f1b67bee682303df403249a44", func := "couplet/coupletlaw14.DmsgSpoilt", spec := "dmsgSpoilt", unfollowed := true, recurses := true, apart := false }
def DmsgSpoiltSaid : Prop := dmsgSpoiltRow.holds Try.pinned (OpenSpec.ofChange dmsgSpoiltSpec)

/-- ITS FALSE NEIGHBOUR: 'it returns false'. Refute it at one input. -/
def dmsgSpoiltWrong : ChangeSpec := { name := "dmsgSpoilt", fn := fun _ => fun
  | [d1, d2, d3] => { results := [.lit (.bool false)], args := [d1, d2, d3] }
  | _ => none }
def DmsgSpoiltWrongFalsely : Prop := dmsgSpoiltRow.holds Try.pinned (OpenSpec.ofChange dmsgSpoiltWrong)

/-- 'coupletlaw14.DmsgKnown': WHATEVER THE INPUT: true; the input reads as it did. -/
def dmsgKnownSpec : ChangeSpec := { name := "dmsgKnown", fn := fun _ => fun
  | [] => { results := [.lit (.bool true)], args := [] }
  | _ => none }
def dmsgKnownRow : OpenClaim := { program := "ytnijijcbdajodaa", sum := "3a2a18117c6467e34fdf82616a65ab568d0b718f1b67bee682303df403249a44", func := "couplet/coupletlaw14.DmsgKnown", spec := "dmsgKnown", unfollowed := true, recurses := true, apart := false }
def DmsgKnownSaid : Prop := dmsgKnownRow.holds Try.pinned (OpenSpec.ofChange dmsgKnownSpec)

/-- ITS FALSE NEIGHBOUR: 'it returns false'. Refute it at one input. -/
def dmsgKnownWrong : ChangeSpec := { name := "dmsgKnown", fn := fun _ => fun
  | [] => { results := [.lit (.bool false)], args := [] }
  | _ => none }
def DmsgKnownWrongFalsely : Prop := dmsgKnownRow.holds Try.pinned (OpenSpec.ofChange dmsgKnownWrong)

/- THE SECOND FORM. 'bulk': how many values and letters a reading holds, each counted each time it is reached (what is shared counts as often as it is met; a slice's spare places count too). A statement '..UptoSaid' is the law's where the arguments, and the package variables that the reading takes, are together of bulk at most 1048576: NARROWER than '..Said'. Prove '..Said' where nothing that the law and all that it calls make is longer than what came in: it says more and counts as full. Else prove '..UptoSaid'. A law counts once. -/
mutual
def uptoBulk {H : Type} : DataW H → Nat
  | .lit (.string bytes) => bytes.length + 1
  | .lit _ => 1
  | .nil => 1
  | .ptr d => uptoBulk d + 1
  | .slice elems spare => uptoBulkAll elems + uptoBulkAll spare + 1
  | .agg parts => uptoBulkAll parts + 1
  | .iface _ d => uptoBulk d + 1
  | .map entries => uptoBulkEntries entries + 1
  | .held _ => 1
def uptoBulkAll {H : Type} : List (DataW H) → Nat
  | [] => 0
  | d :: r => uptoBulk d + uptoBulkAll r
def uptoBulkEntries {H : Type} : List (Lit × DataW H) → Nat
  | [] => 0
  | x :: r => uptoBulkEntry x + uptoBulkEntries r
def uptoBulkEntry {H : Type} : Lit × DataW H → Nat
  | (.string bytes, d) => bytes.length + uptoBulk d + 1
  | (_, d) => uptoBulk d + 1
 end
def uptoSmall : (H : Type) → List (DataW H) → Bool := fun _ ds => decide (uptoBulkAll ds ≤ 1048576)
def OpenSpec.upto (s : _root_.Go.ChangeSpec) : _root_.Go.OpenSpec := { _root_.Go.OpenSpec.ofChange s with cond := some uptoSmall }

/-- 'coupletlaw14.DmsgLays', WHERE WHAT IT READS IS OF BULK AT MOST 1048576: true; the input reads as it did. -/
def dmsgLaysUptoRow : OpenClaim := { program := "ytnijijcbdajodaa", sum := "3a2a18117c6467e34fdf82616a65ab568d0b718f1b67bee682303df403249a44", func := "couplet/coupletlaw14.DmsgLays", spec := "dmsgLays", unfollowed := true, recurses := true, apart := false, narrowed := true }
def DmsgLaysUptoSaid : Prop := dmsgLaysUptoRow.holds Try.pinned (OpenSpec.upto dmsgLaysSpec)

/-- 'coupletlaw14.DmsgReads', WHERE WHAT IT READS IS OF BULK AT MOST 1048576: true; the input reads as it did. -/
def dmsgReadsUptoRow : OpenClaim := { program := "ytnijijcbdajodaa", sum := "3a2a18117c6467e34fdf82616a65ab568d0b718f1b67bee682303df403249a44", func := "couplet/coupletlaw14.DmsgReads", spec := "dmsgReads", unfollowed := true, recurses := true, apart := false, narrowed := true }
def DmsgReadsUptoSaid : Prop := dmsgReadsUptoRow.holds Try.pinned (OpenSpec.upto dmsgReadsSpec)

/-- 'coupletlaw14.DmsgBack', WHERE WHAT IT READS IS OF BULK AT MOST 1048576: true; the input reads as it did. -/
def dmsgBackUptoRow : OpenClaim := { program := "ytnijijcbdajodaa", sum := "3a2a18117c6467e34fdf82616a65ab568d0b718f1b67bee682303df403249a44", func := "couplet/coupletlaw14.DmsgBack", spec := "dmsgBack", unfollowed := true, recurses := true, apart := false, narrowed := true }
def DmsgBackUptoSaid : Prop := dmsgBackUptoRow.holds Try.pinned (OpenSpec.upto dmsgBackSpec)

/-- 'coupletlaw14.DmsgSpoilt', WHERE WHAT IT READS IS OF BULK AT MOST 1048576: true; the input reads as it did. -/
def dmsgSpoiltUptoRow : OpenClaim := { program := "ytnijijcbdajodaa", sum := "3a2a18117c6467e34fdf82616a65ab568d0b718f1b67bee682303df403249a44", func := "couplet/coupletlaw14.DmsgSpoilt", spec := "dmsgSpoilt", unfollowed := true, recurses := true, apart := false, narrowed := true }
def DmsgSpoiltUptoSaid : Prop := dmsgSpoiltUptoRow.holds Try.pinned (OpenSpec.upto dmsgSpoiltSpec)

/-- 'coupletlaw14.DmsgKnown', WHERE WHAT IT READS IS OF BULK AT MOST 1048576: true; the input reads as it did. -/
def dmsgKnownUptoRow : OpenClaim := { program := "ytnijijcbdajodaa", sum := "3a2a18117c6467e34fdf82616a65ab568d0b718f1b67bee682303df403249a44", func := "couplet/coupletlaw14.DmsgKnown", spec := "dmsgKnown", unfollowed := true, recurses := true, apart := false, narrowed := true }
def DmsgKnownUptoSaid : Prop := dmsgKnownUptoRow.holds Try.pinned (OpenSpec.upto dmsgKnownSpec)

end Rows
end Go.Proofs.Ytnijijcbdajodaa
