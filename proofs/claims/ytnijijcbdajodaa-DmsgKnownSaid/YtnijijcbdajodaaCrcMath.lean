/- The plain law of cyclic sums: what a bit, a byte and a text do to the sum; no program. No condition. -/
import Derived.WalkKit
namespace Go.Proofs.Ytnijijcbdajodaa.Crc

/-- What one bit does. -/
def step (n b : BitVec 32) : BitVec 32 :=
  if (n ^^^ b) &&& 1#32 = 1#32 then ((n ^^^ b) >>> 1) ^^^ 3988292384#32 else (n ^^^ b) >>> 1
/-- Bit k of a byte. -/
def bitOf (c : UInt8) (k : Nat) : BitVec 32 := BitVec.ofNat 32 (c.toNat / 2 ^ k % 2)
/-- What the first k bits of a byte do. -/
def byteTo (n : BitVec 32) (c : UInt8) : Nat → BitVec 32
  | 0 => n
  | k + 1 => step (byteTo n c k) (bitOf c k)
/-- What bytes do. -/
def feed (n : BitVec 32) (l : List UInt8) : BitVec 32 := l.foldl (fun n c => byteTo n c 8) n
def sum (l : List UInt8) : BitVec 32 := feed 4294967295#32 l ^^^ 4294967295#32
/-- The four bytes of a sum. -/
def tail (n : BitVec 32) : List UInt8 := [UInt8.ofNat n.toNat, UInt8.ofNat (n.toNat / 256), UInt8.ofNat (n.toNat / 65536), UInt8.ofNat (n.toNat / 16777216)]
def sealed (l : List UInt8) : List UInt8 := l ++ tail (sum l)
theorem feed_snoc (n : BitVec 32) (l : List UInt8) (c : UInt8) : feed n (l ++ [c]) = byteTo (feed n l) c 8 := by simp [feed]

theorem xor_int (a b : BitVec 32) : bits BinOp.xor .u32 (a.toNat : Int) (b.toNat : Int) = ((a ^^^ b).toNat : Int) := by
  rw [u32_xor_nat _ _ a.isLt b.isLt, BitVec.toNat_xor]
theorem and_int (a b : BitVec 32) : bits BinOp.and .u32 (a.toNat : Int) (b.toNat : Int) = ((a &&& b).toNat : Int) := by
  rw [u32_and_nat _ _ a.isLt b.isLt, BitVec.toNat_and]
theorem half_int (a : BitVec 32) : (a.toNat : Int) / 2 = ((a >>> 1).toNat : Int) := by
  rw [BitVec.toNat_ushiftRight]; simp [Nat.shiftRight_eq_div_pow]
end Go.Proofs.Ytnijijcbdajodaa.Crc
