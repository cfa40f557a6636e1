/-
  The plain law of layer 14: what a message is, may be, and which bytes it has. No program in sight.
-/
import Derived.Test.YtnijijcbdajodaaLrecW
import Derived.Test.YtnijijcbdajodaaCrc3
namespace Go.Proofs.Ytnijijcbdajodaa
set_option linter.unusedVariables false
set_option linter.unusedSimpArgs false
open Go.RowKit

structure Msg where
  kind : Int
  te : Nat
  di : Nat
  id : Nat
  lsn : Nat
  low : Nat
  key : List UInt8
  hi : List UInt8
  del : Bool
  found : Bool
  val : List UInt8
  recs : List Rec
  err : Int
  deriving DecidableEq

/-- Sizes that a machine has. -/
structure Msg.ok (m : Msg) : Prop where
  kind : -9223372036854775808 ≤ m.kind ∧ m.kind ≤ 9223372036854775807
  te : m.te < U64
  di : m.di < U64
  id : m.id < U64
  lsn : m.lsn < U64
  low : m.low < U64
  key : m.key.length ≤ 9223372036854775807
  hi : m.hi.length ≤ 9223372036854775807
  val : m.val.length ≤ 9223372036854775807
  recs : ∀ r ∈ m.recs, r.ok
  err : -9223372036854775808 ≤ m.err ∧ m.err ≤ 9223372036854775807

def msgCells (m : Msg) (a : Option Addr) (n c : Nat) : List Value :=
  [.int .i64 m.kind, .int .u64 m.te, .int .u64 m.di, .int .u64 m.id, .int .u64 m.lsn, .int .u64 m.low, .string ⟨m.key.toArray⟩, .string ⟨m.hi.toArray⟩, .bool m.del, .bool m.found, .string ⟨m.val.toArray⟩, .slice a n c, .int .i64 m.err]
def msgV (m : Msg) (a : Option Addr) (n c : Nat) : Value :=
  .agg #[.int .i64 m.kind, .int .u64 m.te, .int .u64 m.di, .int .u64 m.id, .int .u64 m.lsn, .int .u64 m.low, .string ⟨m.key.toArray⟩, .string ⟨m.hi.toArray⟩, .bool m.del, .bool m.found, .string ⟨m.val.toArray⟩, .slice a n c, .int .i64 m.err]

def tooLong (key val : List UInt8) : Bool := decide (16 < key.length) || decide (24 < val.length)
def longM (m : Msg) : Bool := tooLong m.key m.val || tooLong m.hi [] || decide (500 < m.recs.length) || m.recs.any fun r => tooLong r.key r.val
/-- May records be answered? -/
def valueOp (prev : Option Rec) (r : Rec) : Bool := may r == 0 && !r.del && stampB r.lsn && (match prev with | none => true | some p => Op.bytesLess p.key r.key)
def valuesFrom : Option Rec → List Rec → Bool
  | _, [] => true
  | p, r :: rs => valueOp p r && valuesFrom (some r) rs
def valuesM (rs : List Rec) : Bool := valuesFrom none rs
/-- Are the fields of its kind as they must be? -/
def rightM (m : Msg) : Bool :=
  if m.kind = 1 then true
  else if m.kind = 2 then stampB m.lsn && may ⟨m.key, 0, m.del, m.val⟩ == 0
  else if m.kind = 3 then decide (m.lsn ≤ 1099511627776) && decide (m.low ≤ m.lsn)
  else if m.kind = 4 then stampB m.id && !m.key.isEmpty
  else if m.kind = 5 then stampB m.id
  else if m.kind = 6 then stampB m.id && decide (m.lsn ≤ 1099511627776)
  else if m.kind = 7 then true
  else if m.kind = 8 then stampB m.lsn
  else if m.kind = 9 then stampB m.id && (m.found || m.val.isEmpty)
  else if m.kind = 10 then stampB m.id && valuesM m.recs
  else if m.kind = 11 then stampB m.id && decide (m.lsn ≤ 1099511627776) && (m.err == 0 || m.err == 7)
  else false
/-- A message without the fields that its kind has. -/
def wipeM (m : Msg) : Msg :=
  if m.kind = 2 then { m with lsn := 0, key := [], del := false, val := [] }
  else if m.kind = 3 then { m with lsn := 0, low := 0 }
  else if m.kind = 4 then { m with id := 0, key := [] }
  else if m.kind = 5 then { m with id := 0, key := [], hi := [] }
  else if m.kind = 6 then { m with id := 0, lsn := 0 }
  else if m.kind = 8 then { m with lsn := 0 }
  else if m.kind = 9 then { m with id := 0, found := false, val := [] }
  else if m.kind = 10 then { m with id := 0, recs := [] }
  else if m.kind = 11 then { m with id := 0, lsn := 0, err := 0 }
  else m
def restM (m : Msg) : Bool := m.di == 0 && m.id == 0 && m.lsn == 0 && m.low == 0 && m.key.isEmpty && m.hi.isEmpty && !m.del && !m.found && m.val.isEmpty && m.recs.isEmpty && m.err == 0
/-- May a message be? -/
def goodM (m : Msg) : Bool := stampB m.te && (m.kind == 1 || stampB m.di) && rightM m && restM (wipeM (if m.kind = 1 then m else { m with di := 0 }))
def checkM (m : Msg) : Nat := if longM m then 3 else if goodM m then 0 else 2

/-! ### Its bytes -/
def bitM (b : Bool) : Nat := if b then 1 else 0
def recBytes (r : Rec) : List UInt8 := Wire.putText r.key ++ (Wire.putNum r.lsn ++ Wire.putText r.val)
def recsBytes : List Rec → List UInt8
  | [] => []
  | r :: rs => recBytes r ++ recsBytes rs
def bodyM (m : Msg) : List UInt8 :=
  Wire.putNum m.kind.toNat ++ (Wire.putNum m.te ++ (Wire.putNum m.di ++ (Wire.putNum m.id ++ (Wire.putNum m.lsn ++ (Wire.putNum m.low ++ (Wire.putText m.key ++ (Wire.putText m.hi ++ (Wire.putNum (bitM m.del) ++ (Wire.putNum (bitM m.found) ++ (Wire.putText m.val ++ (Wire.putNum m.recs.length ++ (recsBytes m.recs ++ Wire.putNum m.err.toNat))))))))))))
def encM (m : Msg) : List UInt8 := if checkM m = 0 then sealI (bodyM m) else []

/-! ### Reading -/
def readRecs : Nat → Wire.Rd → List Rec × Wire.Rd
  | 0, r => ([], r)
  | k + 1, r =>
    let a := Wire.rText r
    let b := Wire.rNum a.2
    let c := Wire.rText b.2
    let d := readRecs k c.2
    (⟨a.1, b.1, false, c.1⟩ :: d.1, d.2)
structure Head where
  kind : Nat
  te : Nat
  di : Nat
  id : Nat
  lsn : Nat
  low : Nat
  key : List UInt8
  hi : List UInt8
  r : Wire.Rd
def readHead (t : List UInt8) : Head :=
  let r0 := Wire.rNum (some t)
  let r1 := Wire.rNum r0.2
  let r2 := Wire.rNum r1.2
  let r3 := Wire.rNum r2.2
  let r4 := Wire.rNum r3.2
  let r5 := Wire.rNum r4.2
  let r6 := Wire.rText r5.2
  let r7 := Wire.rText r6.2
  ⟨r0.1, r1.1, r2.1, r3.1, r4.1, r5.1, r6.1, r7.1, r7.2⟩
/-- The message that a text is. -/
def readBody (t : List UInt8) : Option Msg :=
  let h := readHead t
  let r8 := Wire.rNum h.r
  let r9 := Wire.rNum r8.2
  let r10 := Wire.rText r9.2
  let r11 := Wire.rNum r10.2
  let q := readRecs r11.1 r11.2
  let r12 := Wire.rNum q.2
  if h.kind < 12 ∧ r8.1 < 2 ∧ r9.1 < 2 ∧ r11.1 < 501 ∧ r12.1 < 100 ∧ r12.2 = some [] ∧ checkM ⟨h.kind, h.te, h.di, h.id, h.lsn, h.low, h.key, h.hi, r8.1 == 1, r9.1 == 1, r10.1, q.1, r12.1⟩ = 0
    then some ⟨h.kind, h.te, h.di, h.id, h.lsn, h.low, h.key, h.hi, r8.1 == 1, r9.1 == 1, r10.1, q.1, r12.1⟩ else none
def readM (s : List UInt8) : Option Msg := if (openI s).2 then readBody (openI s).1 else none
end Go.Proofs.Ytnijijcbdajodaa
