/-
  No cell of these rows narrows 'for every input' (looked for: loops, veiled, ifaces, maps, wideKeys, modest, calm, conditions, laid).
  DERIVED. THE GIVEN ROWS OF THIS SEAT. 5 by the template 'for every input the law returns true; each argument reads behind the call as it read before'; 0 by the template 'total and deterministic' (their statements: YtecknikehieioaaGreatTotals.lean).
  GIVEN WITH THE SEED: the statements are not yours to turn. If you find one false, say at which input.
  Laid BY PROGRAM, IN A SANDBOX (cutbox-rows.mjs): the forced cells as the released guide's own fill.sh prints them over the translation 5f7adb1691fa200d… (all of the seat's roots in one cut). By AI agents, Wed Nov 11 2026. No macro, syntax, notation, axiom, sorry.
-/
import Derived.Test.YtecknikehieioaaGreatChecked
import GoSem.Claim
import GoSem.ClaimJoined
import GoSem.ClaimMapViews
import Derived.JoinedTies
import Derived.KernelRfl
namespace Go.Proofs.YtecknikehieioaaGreat
/- THE CELL 'sum', in the pinned program and in every row, IS THE sha256 OF THE DUMP (.gsa) THAT YtecknikehieioaaGreatProg.lean LOADS. Nothing in Lean hashes anything: it is a label: what it is worth is what the hold of that sum in a sandbox is worth. -/
noncomputable def Tryz.pinned : Pinned := { name := "ytecknikehieioaagreat", sum := "5f7adb1691fa200d81e8bde6279c4fff4744b3362ed6e5ee007dfa2ee2c24652", checked := Tryz.checked }
namespace Rows
def none {H : Type} : Left H := { results := [], args := [] }

/-- 'coupletlaw28.LookAsks': WHATEVER THE INPUT: true; the input reads as it did. -/
def lookAsksSpec : ChangeSpec := { name := "lookAsks", fn := fun _ => fun
  | [d1, d2] => { results := [.lit (.bool true)], args := [d1, d2] }
  | _ => none }
def lookAsksRow : OpenClaim := { program := "ytecknikehieioaagreat", sum := "5f7adb1691fa200d81e8bde6279c4fff4744b3362ed6e5ee007dfa2ee2c24652", func := "couplet/coupletlaw28.LookAsks", spec := "lookAsks", unfollowed := true, recurses := true, plainKeys := false, apart := false }
def LookAsksSaid : Prop := lookAsksRow.holds Tryz.pinned (OpenSpec.ofChange lookAsksSpec)

/-- ITS FALSE NEIGHBOUR: 'it returns false'. Refute it at one input. -/
def lookAsksWrong : ChangeSpec := { name := "lookAsks", fn := fun _ => fun
  | [d1, d2] => { results := [.lit (.bool false)], args := [d1, d2] }
  | _ => none }
def LookAsksWrongFalsely : Prop := lookAsksRow.holds Tryz.pinned (OpenSpec.ofChange lookAsksWrong)

/-- 'coupletlaw28.LookRight': WHATEVER THE INPUT: true; the input reads as it did. -/
def lookRightSpec : ChangeSpec := { name := "lookRight", fn := fun _ => fun
  | [d1, d2] => { results := [.lit (.bool true)], args := [d1, d2] }
  | _ => none }
def lookRightRow : OpenClaim := { program := "ytecknikehieioaagreat", sum := "5f7adb1691fa200d81e8bde6279c4fff4744b3362ed6e5ee007dfa2ee2c24652", func := "couplet/coupletlaw28.LookRight", spec := "lookRight", unfollowed := true, recurses := true, plainKeys := false, apart := false }
def LookRightSaid : Prop := lookRightRow.holds Tryz.pinned (OpenSpec.ofChange lookRightSpec)

/-- ITS FALSE NEIGHBOUR: 'it returns false'. Refute it at one input. -/
def lookRightWrong : ChangeSpec := { name := "lookRight", fn := fun _ => fun
  | [d1, d2] => { results := [.lit (.bool false)], args := [d1, d2] }
  | _ => none }
def LookRightWrongFalsely : Prop := lookRightRow.holds Tryz.pinned (OpenSpec.ofChange lookRightWrong)

/-- 'coupletlaw28.LookTree': WHATEVER THE INPUT: true; the input reads as it did. -/
def lookTreeSpec : ChangeSpec := { name := "lookTree", fn := fun _ => fun
  | [d1, d2, d3] => { results := [.lit (.bool true)], args := [d1, d2, d3] }
  | _ => none }
def lookTreeRow : OpenClaim := { program := "ytecknikehieioaagreat", sum := "5f7adb1691fa200d81e8bde6279c4fff4744b3362ed6e5ee007dfa2ee2c24652", func := "couplet/coupletlaw28.LookTree", spec := "lookTree", unfollowed := true, recurses := true, plainKeys := false, apart := false }
def LookTreeSaid : Prop := lookTreeRow.holds Tryz.pinned (OpenSpec.ofChange lookTreeSpec)

/-- ITS FALSE NEIGHBOUR: 'it returns false'. Refute it at one input. -/
def lookTreeWrong : ChangeSpec := { name := "lookTree", fn := fun _ => fun
  | [d1, d2, d3] => { results := [.lit (.bool false)], args := [d1, d2, d3] }
  | _ => none }
def LookTreeWrongFalsely : Prop := lookTreeRow.holds Tryz.pinned (OpenSpec.ofChange lookTreeWrong)

/-- 'coupletlaw28.LookSees': WHATEVER THE INPUT: true; the input reads as it did. -/
def lookSeesSpec : ChangeSpec := { name := "lookSees", fn := fun _ => fun
  | [d1, d2, d3] => { results := [.lit (.bool true)], args := [d1, d2, d3] }
  | _ => none }
def lookSeesRow : OpenClaim := { program := "ytecknikehieioaagreat", sum := "5f7adb1691fa200d81e8bde6279c4fff4744b3362ed6e5ee007dfa2ee2c24652", func := "couplet/coupletlaw28.LookSees", spec := "lookSees", unfollowed := true, recurses := true, plainKeys := false, apart := false }
def LookSeesSaid : Prop := lookSeesRow.holds Tryz.pinned (OpenSpec.ofChange lookSeesSpec)

/-- ITS FALSE NEIGHBOUR: 'it returns false'. Refute it at one input. -/
def lookSeesWrong : ChangeSpec := { name := "lookSees", fn := fun _ => fun
  | [d1, d2, d3] => { results := [.lit (.bool false)], args := [d1, d2, d3] }
  | _ => none }
def LookSeesWrongFalsely : Prop := lookSeesRow.holds Tryz.pinned (OpenSpec.ofChange lookSeesWrong)

/-- 'coupletlaw28.LookKnown': WHATEVER THE INPUT: true; the input reads as it did. -/
def lookKnownSpec : ChangeSpec := { name := "lookKnown", fn := fun _ => fun
  | [] => { results := [.lit (.bool true)], args := [] }
  | _ => none }
def lookKnownRow : OpenClaim := { program := "ytecknikehieioaagreat", sum := "5f7adb1691fa200d81e8bde6279c4fff4744b3362ed6e5ee007dfa2ee2c24652", func := "couplet/coupletlaw28.LookKnown", spec := "lookKnown", unfollowed := true, recurses := true, plainKeys := false, apart := false }
def LookKnownSaid : Prop := lookKnownRow.holds Tryz.pinned (OpenSpec.ofChange lookKnownSpec)

/-- ITS FALSE NEIGHBOUR: 'it returns false'. Refute it at one input. -/
def lookKnownWrong : ChangeSpec := { name := "lookKnown", fn := fun _ => fun
  | [] => { results := [.lit (.bool false)], args := [] }
  | _ => none }
def LookKnownWrongFalsely : Prop := lookKnownRow.holds Tryz.pinned (OpenSpec.ofChange lookKnownWrong)

/- THE SECOND FORM. 'bulk': how many values and letters a reading holds, each counted each time it is reached (what is shared counts as often as it is met; a slice's spare places count too). A statement '..UptoSaid' is the law's where the arguments, and the package variables that the reading takes, are together of bulk at most 1048576: NARROWER than '..Said'. Prove '..Said' where nothing that the law and all that it calls make is longer than what came in: it says more and counts as full. Else prove '..UptoSaid'. A law counts once. -/
mutual
def uptoBulk {H : Type} : DataW H → Nat
  | .lit (.string bytes) => bytes.length + 1
  | .lit _ => 1
  | .nil => 1
  | .ptr d => uptoBulk d + 1
  | .slice elems spare => uptoBulkAll elems + uptoBulkAll spare + 1
  | .agg parts => uptoBulkAll parts + 1
  | .iface _ d => uptoBulk d + 1
  | .map entries => uptoBulkEntries entries + 1
  | .held _ => 1
def uptoBulkAll {H : Type} : List (DataW H) → Nat
  | [] => 0
  | d :: r => uptoBulk d + uptoBulkAll r
def uptoBulkEntries {H : Type} : List (Lit × DataW H) → Nat
  | [] => 0
  | x :: r => uptoBulkEntry x + uptoBulkEntries r
def uptoBulkEntry {H : Type} : Lit × DataW H → Nat
  | (.string bytes, d) => bytes.length + uptoBulk d + 1
  | (_, d) => uptoBulk d + 1
 end
def uptoSmall : (H : Type) → List (DataW H) → Bool := fun _ ds => decide (uptoBulkAll ds ≤ 1048576)
def OpenSpec.upto (s : _root_.Go.ChangeSpec) : _root_.Go.OpenSpec := { _root_.Go.OpenSpec.ofChange s with cond := some uptoSmall }

/-- 'coupletlaw28.LookAsks', WHERE WHAT IT READS IS OF BULK AT MOST 1048576: true; the input reads as it did. -/
def lookAsksUptoRow : OpenClaim := { program := "ytecknikehieioaagreat", sum := "5f7adb1691fa200d81e8bde6279c4fff4744b3362ed6e5ee007dfa2ee2c24652", func := "couplet/coupletlaw28.LookAsks", spec := "lookAsks", unfollowed := true, recurses := true, plainKeys := false, apart := false, narrowed := true }
def LookAsksUptoSaid : Prop := lookAsksUptoRow.holds Tryz.pinned (OpenSpec.upto lookAsksSpec)

/-- 'coupletlaw28.LookRight', WHERE WHAT IT READS IS OF BULK AT MOST 1048576: true; the input reads as it did. -/
def lookRightUptoRow : OpenClaim := { program := "ytecknikehieioaagreat", sum := "5f7adb1691fa200d81e8bde6279c4fff4744b3362ed6e5ee007dfa2ee2c24652", func := "couplet/coupletlaw28.LookRight", spec := "lookRight", unfollowed := true, recurses := true, plainKeys := false, apart := false, narrowed := true }
def LookRightUptoSaid : Prop := lookRightUptoRow.holds Tryz.pinned (OpenSpec.upto lookRightSpec)

/-- 'coupletlaw28.LookTree', WHERE WHAT IT READS IS OF BULK AT MOST 1048576: true; the input reads as it did. -/
def lookTreeUptoRow : OpenClaim := { program := "ytecknikehieioaagreat", sum := "5f7adb1691fa200d81e8bde6279c4fff4744b3362ed6e5ee007dfa2ee2c24652", func := "couplet/coupletlaw28.LookTree", spec := "lookTree", unfollowed := true, recurses := true, plainKeys := false, apart := false, narrowed := true }
def LookTreeUptoSaid : Prop := lookTreeUptoRow.holds Tryz.pinned (OpenSpec.upto lookTreeSpec)

/-- 'coupletlaw28.LookSees', WHERE WHAT IT READS IS OF BULK AT MOST 1048576: true; the input reads as it did. -/
def lookSeesUptoRow : OpenClaim := { program := "ytecknikehieioaagreat", sum := "5f7adb1691fa200d81e8bde6279c4fff4744b3362ed6e5ee007dfa2ee2c24652", func := "couplet/coupletlaw28.LookSees", spec := "lookSees", unfollowed := true, recurses := true, plainKeys := false, apart := false, narrowed := true }
def LookSeesUptoSaid : Prop := lookSeesUptoRow.holds Tryz.pinned (OpenSpec.upto lookSeesSpec)

/-- 'coupletlaw28.LookKnown', WHERE WHAT IT READS IS OF BULK AT MOST 1048576: true; the input reads as it did. -/
def lookKnownUptoRow : OpenClaim := { program := "ytecknikehieioaagreat", sum := "5f7adb1691fa200d81e8bde6279c4fff4744b3362ed6e5ee007dfa2ee2c24652", func := "couplet/coupletlaw28.LookKnown", spec := "lookKnown", unfollowed := true, recurses := true, plainKeys := false, apart := false, narrowed := true }
def LookKnownUptoSaid : Prop := lookKnownUptoRow.holds Tryz.pinned (OpenSpec.upto lookKnownSpec)

end Rows
end Go.Proofs.YtecknikehieioaaGreat
