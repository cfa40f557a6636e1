/-
  No cell of these rows narrows 'for every input' (looked for: loops, veiled, ifaces, maps, wideKeys, modest, calm, conditions, laid).
  DERIVED. THE GIVEN ROWS OF THIS SEAT. 4 by the template 'for every input the law returns true; each argument reads behind the call as it read before'; 0 by the template 'total and deterministic' (their statements: YtffianjbljgnaaaTotals.lean).
  GIVEN WITH THE SEED: the statements are not yours to turn. If you find one false, say at which input.
  Laid BY PROGRAM, IN A SANDBOX (cutbox-rows.mjs): the forced cells as the released guide's own fill.sh prints them over the translation 4c440bd0b345c290… (all of the seat's roots in one cut). By AI agents, Wed Nov 11 2026. No macro, syntax, notation, axiom, sorry.
-/
import Derived.Test.YtffianjbljgnaaaChecked
import GoSem.Claim
import GoSem.ClaimJoined
import GoSem.ClaimMapViews
import Derived.JoinedTies
import Derived.KernelRfl
namespace Go.Proofs.Ytffianjbljgnaaa
/- THE CELL 'sum', in the pinned program and in every row, IS THE sha256 OF THE DUMP (.gsa) THAT YtffianjbljgnaaaProg.lean LOADS. Nothing in Lean hashes anything: it is a label: what it is worth is what the hold of that sum in a sandbox is worth. -/
noncomputable def Try.pinned : Pinned := { name := "ytffianjbljgnaaa", sum := "4c440bd0b345c290618bc60fa5b61d8e7c2b98f1dcbe1c92ed38067995c400a1", checked := Try.checked }
namespace Rows
def none {H : Type} : Left H := { results := [], args := [] }

/-- 'coupletlaw27.SpecRuns': WHATEVER THE INPUT: true; the input reads as it did. -/
def specRunsSpec : ChangeSpec := { name := "specRuns", fn := fun _ => fun
  | [d1, d2, d3] => { results := [.lit (.bool true)], args := [d1, d2, d3] }
  | _ => none }
def specRunsRow : OpenClaim := { program := "ytffianjbljgnaaa", sum := "4c440bd0b345c290618bc60fa5b61d8e7c2b98f1dcbe1c92ed38067995c400a1", func := "couplet/coupletlaw27.SpecRuns", spec := "specRuns", unfollowed := true, recurses := true, plainKeys := false, apart := false }
def SpecRunsSaid : Prop := specRunsRow.holds Try.pinned (OpenSpec.ofChange specRunsSpec)

/-- ITS FALSE NEIGHBOUR: 'it returns false'. Refute it at one input. -/
def specRunsWrong : ChangeSpec := { name := "specRuns", fn := fun _ => fun
  | [d1, d2, d3] => { results := [.lit (.bool false)], args := [d1, d2, d3] }
  | _ => none }
def SpecRunsWrongFalsely : Prop := specRunsRow.holds Try.pinned (OpenSpec.ofChange specRunsWrong)

/-- 'coupletlaw27.SpecMaps': WHATEVER THE INPUT: true; the input reads as it did. -/
def specMapsSpec : ChangeSpec := { name := "specMaps", fn := fun _ => fun
  | [d1, d2] => { results := [.lit (.bool true)], args := [d1, d2] }
  | _ => none }
def specMapsRow : OpenClaim := { program := "ytffianjbljgnaaa", sum := "4c440bd0b345c290618bc60fa5b61d8e7c2b98f1dcbe1c92ed38067995c400a1", func := "couplet/coupletlaw27.SpecMaps", spec := "specMaps", unfollowed := true, recurses := true, plainKeys := false, apart := false }
def SpecMapsSaid : Prop := specMapsRow.holds Try.pinned (OpenSpec.ofChange specMapsSpec)

/-- ITS FALSE NEIGHBOUR: 'it returns false'. Refute it at one input. -/
def specMapsWrong : ChangeSpec := { name := "specMaps", fn := fun _ => fun
  | [d1, d2] => { results := [.lit (.bool false)], args := [d1, d2] }
  | _ => none }
def SpecMapsWrongFalsely : Prop := specMapsRow.holds Try.pinned (OpenSpec.ofChange specMapsWrong)

/-- 'coupletlaw27.SpecContents': WHATEVER THE INPUT: true; the input reads as it did. -/
def specContentsSpec : ChangeSpec := { name := "specContents", fn := fun _ => fun
  | [d1, d2, d3] => { results := [.lit (.bool true)], args := [d1, d2, d3] }
  | _ => none }
def specContentsRow : OpenClaim := { program := "ytffianjbljgnaaa", sum := "4c440bd0b345c290618bc60fa5b61d8e7c2b98f1dcbe1c92ed38067995c400a1", func := "couplet/coupletlaw27.SpecContents", spec := "specContents", unfollowed := true, recurses := true, plainKeys := false, apart := false }
def SpecContentsSaid : Prop := specContentsRow.holds Try.pinned (OpenSpec.ofChange specContentsSpec)

/-- ITS FALSE NEIGHBOUR: 'it returns false'. Refute it at one input. -/
def specContentsWrong : ChangeSpec := { name := "specContents", fn := fun _ => fun
  | [d1, d2, d3] => { results := [.lit (.bool false)], args := [d1, d2, d3] }
  | _ => none }
def SpecContentsWrongFalsely : Prop := specContentsRow.holds Try.pinned (OpenSpec.ofChange specContentsWrong)

/-- 'coupletlaw27.SpecKnown': WHATEVER THE INPUT: true; the input reads as it did. -/
def specKnownSpec : ChangeSpec := { name := "specKnown", fn := fun _ => fun
  | [] => { results := [.lit (.bool true)], args := [] }
  | _ => none }
def specKnownRow : OpenClaim := { program := "ytffianjbljgnaaa", sum := "4c440bd0b345c290618bc60fa5b61d8e7c2b98f1dcbe1c92ed38067995c400a1", func := "couplet/coupletlaw27.SpecKnown", spec := "specKnown", unfollowed := true, recurses := true, plainKeys := false, apart := false }
def SpecKnownSaid : Prop := specKnownRow.holds Try.pinned (OpenSpec.ofChange specKnownSpec)

/-- ITS FALSE NEIGHBOUR: 'it returns false'. Refute it at one input. -/
def specKnownWrong : ChangeSpec := { name := "specKnown", fn := fun _ => fun
  | [] => { results := [.lit (.bool false)], args := [] }
  | _ => none }
def SpecKnownWrongFalsely : Prop := specKnownRow.holds Try.pinned (OpenSpec.ofChange specKnownWrong)

/- THE SECOND FORM. 'bulk': how many values and letters a reading holds, each counted each time it is reached (what is shared counts as often as it is met; a slice's spare places count too). A statement '..UptoSaid' is the law's where the arguments, and the package variables that the reading takes, are together of bulk at most 1048576: NARROWER than '..Said'. Prove '..Said' where nothing that the law and all that it calls make is longer than what came in: it says more and counts as full. Else prove '..UptoSaid'. A law counts once. -/
mutual
def uptoBulk {H : Type} : DataW H → Nat
  | .lit (.string bytes) => bytes.length + 1
  | .lit _ => 1
  | .nil => 1
  | .ptr d => uptoBulk d + 1
  | .slice elems spare => uptoBulkAll elems + uptoBulkAll spare + 1
  | .agg parts => uptoBulkAll parts + 1
  | .iface _ d => uptoBulk d + 1
  | .map entries => uptoBulkEntries entries + 1
  | .held _ => 1
def uptoBulkAll {H : Type} : List (DataW H) → Nat
  | [] => 0
  | d :: r => uptoBulk d + uptoBulkAll r
def uptoBulkEntries {H : Type} : List (Lit × DataW H) → Nat
  | [] => 0
  | x :: r => uptoBulkEntry x + uptoBulkEntries r
def uptoBulkEntry {H : Type} : Lit × DataW H → Nat
  | (.string bytes, d) => bytes.length + uptoBulk d + 1
  | (_, d) => uptoBulk d + 1
 end
def uptoSmall : (H : Type) → List (DataW H) → Bool := fun _ ds => decide (uptoBulkAll ds ≤ 1048576)
def OpenSpec.upto (s : _root_.Go.ChangeSpec) : _root_.Go.OpenSpec := { _root_.Go.OpenSpec.ofChange s with cond := some uptoSmall }

/-- 'coupletlaw27.SpecRuns', WHERE WHAT IT READS IS OF BULK AT MOST 1048576: true; the input reads as it did. -/
def specRunsUptoRow : OpenClaim := { program := "ytffianjbljgnaaa", sum := "4c440bd0b345c290618bc60fa5b61d8e7c2b98f1dcbe1c92ed38067995c400a1", func := "couplet/coupletlaw27.SpecRuns", spec := "specRuns", unfollowed := true, recurses := true, plainKeys := false, apart := false, narrowed := true }
def SpecRunsUptoSaid : Prop := specRunsUptoRow.holds Try.pinned (OpenSpec.upto specRunsSpec)

/-- 'coupletlaw27.SpecMaps', WHERE WHAT IT READS IS OF BULK AT MOST 1048576: true; the input reads as it did. -/
def specMapsUptoRow : OpenClaim := { program := "ytffianjbljgnaaa", sum := "4c440bd0b345c290618bc60fa5b61d8e7c2b98f1dcbe1c92ed38067995c400a1", func := "couplet/coupletlaw27.SpecMaps", spec := "specMaps", unfollowed := true, recurses := true, plainKeys := false, apart := false, narrowed := true }
def SpecMapsUptoSaid : Prop := specMapsUptoRow.holds Try.pinned (OpenSpec.upto specMapsSpec)

/-- 'coupletlaw27.SpecContents', WHERE WHAT IT READS IS OF BULK AT MOST 1048576: true; the input reads as it did. -/
def specContentsUptoRow : OpenClaim := { program := "ytffianjbljgnaaa", sum := "4c440bd0b345c290618bc60fa5b61d8e7c2b98f1dcbe1c92ed38067995c400a1", func := "couplet/coupletlaw27.SpecContents", spec := "specContents", unfollowed := true, recurses := true, plainKeys := false, apart := false, narrowed := true }
def SpecContentsUptoSaid : Prop := specContentsUptoRow.holds Try.pinned (OpenSpec.upto specContentsSpec)

/-- 'coupletlaw27.SpecKnown', WHERE WHAT IT READS IS OF BULK AT MOST 1048576: true; the input reads as it did. -/
def specKnownUptoRow : OpenClaim := { program := "ytffianjbljgnaaa", sum := "4c440bd0b345c290618bc60fa5b61d8e7c2b98f1dcbe1c92ed38067995c400a1", func := "couplet/coupletlaw27.SpecKnown", spec := "specKnown", unfollowed := true, recurses := true, plainKeys := false, apart := false, narrowed := true }
def SpecKnownUptoSaid : Prop := specKnownUptoRow.holds Try.pinned (OpenSpec.upto specKnownSpec)

end Rows
end Go.Proofs.Ytffianjbljgnaaa
