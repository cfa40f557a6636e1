/-
  The walk of the sum of bytes (crc.Sum): what it returns, and that it writes only what it makes. No condition.
-/
import Derived.Test.YtnijijcbdajodaaRows
import Derived.Test.YtnijijcbdajodaaMem
import Derived.WalkKit
import Derived.WalkSpells
import Derived.WalkLawsBesides
namespace Go.Proofs.Ytnijijcbdajodaa
set_option linter.unusedVariables false
set_option linter.unusedSimpArgs false
open Go.RowKit

def stepI (n a : Int) : Int :=
  if bits BinOp.and .u32 (bits BinOp.xor .u32 n a) 1 == 1 then bits BinOp.xor .u32 (bits BinOp.xor .u32 n a / 2) 3988292384 else bits BinOp.xor .u32 n a / 2

set_option maxHeartbeats 400000 in
theorem step_any (b : Nat) (n a : Int) (w : World) (hc : w.cell? ⟨b, 0, none⟩ = some (.int .u32 n)) (hf : w.frozen? ⟨b, 0, none⟩ = false) :
    Calls Try.prog 81 #[.int .u32 a, .pointer (some ⟨b, 0, none⟩)] w fun e w' => e = .returned (.tuple #[]) ∧ w' = w.setCell ⟨b, 0, none⟩ (.int .u32 (stepI n a)) := by
  unfold stepI
  go_enter Try.func81, Try.ntmps81
  go_wp2
  · refine bodyPost_ret (results_none rfl _ _ _) rfl ?_
    refine ⟨rfl, ?_⟩
    rw [setCell_twice]
  · go_end0
    refine ⟨rfl, ?_⟩
    rw [setCell_twice]

def byteI (n : Int) (c : UInt8) : Nat → Int
  | 0 => n
  | k + 1 => stepI (byteI n c k) (bits BinOp.and .u32 ((c.toNat : Int) / 2 ^ k % 4294967296) 1)
def feedI (n : Int) (l : List UInt8) : Int := l.foldl (fun n c => byteI n c 8) n
def sumI (l : List UInt8) : Int := bits BinOp.xor .u32 (feedI 4294967295 l) 4294967295

theorem take_snoc (s : ByteArray) (k : Nat) (h : k < s.size) : s.data.toList.take (k + 1) = s.data.toList.take k ++ [s[k]] := by
  rw [List.take_succ_eq_append_getElem (by simpa using h)]; rfl
theorem feedI_snoc (n : Int) (l : List UInt8) (c : UInt8) : feedI n (l ++ [c]) = byteI (feedI n l) c 8 := by simp [feedI]
theorem alloc_one {w : World} {t : TypeId} {a b : Int} (h : a = b) : w.alloc (.cells #[.int .u32 a] t) = w.alloc (.cells #[.int .u32 b] t) := by rw [h]

set_option maxHeartbeats 1000000 in
theorem sum_any (s : ByteArray) (w : World) (hs : s.size ≤ maxLen) :
    Calls Try.prog 43 #[.string s] w fun e w' => e = .returned (.int .u32 (sumI s.data.toList)) ∧ Below w.heap.size w w' := by
  unfold maxLen at hs
  go_enter Try.func43, Try.ntmps43
  go_wp2
  go_loopw [10, 5, 6, 13] (fun i _ _ _ wr => ∃ k : Nat, k ≤ s.size ∧ i = .int .i64 k ∧ wr = w.alloc (.cells #[.int .u32 (feedI 4294967295 (s.data.toList.take k))] 73)) (fun i _ _ _ _ => s.size - (intOf i).toNat)
  case atStart => exact ⟨0, Nat.zero_le _, rfl, rfl⟩
  case round =>
    obtain ⟨k, hk, rfl, rfl⟩ := hrel
    by_cases hlt : k < s.size
    · go_wp2
      go_loopw [6, 13] (fun _ j wr => ∃ m : Nat, m ≤ 8 ∧ j = .int .i64 m ∧ wr = w.alloc (.cells #[.int .u32 (byteI (feedI 4294967295 (s.data.toList.take k)) s[k] m)] 73)) (fun _ j _ => 8 - (intOf j).toNat)
      case atStart => exact ⟨0, Nat.zero_le _, rfl, rfl⟩
      case round =>
        obtain ⟨m, hm, rfl, rfl⟩ := hrel
        by_cases hlm : m < 8
        · go_wp2_with fail
          refine (step_any _ _ _ _ (by rw [World.cell?_alloc_new]; rfl) ?_).mono ?_
          · go_simp
          rintro e w' ⟨rfl, rfl⟩
          go_wp2
          go_roundw
          case rel => exact ⟨m + 1, by omega, by go_num, alloc_one rfl⟩
          case measure => simp [intOf]; omega
        · go_wp2
          go_wp2
          go_roundw
          case rel =>
            obtain rfl : m = 8 := by omega
            exact ⟨k + 1, by omega, by go_num, alloc_one (by rw [take_snoc s k hlt, feedI_snoc])⟩
          case measure => simp [intOf]; omega
    · go_wp2
      go_ret
      refine ⟨ret_int ?_, (Below.refl _ _).alloc (Nat.le_refl _) _⟩
      rw [List.take_of_length_le (by simp; omega)]; rfl
end Go.Proofs.Ytnijijcbdajodaa
