/-
  The walks of crc.Seal, crc.Open, and of the document's Sum and Seal. Condition: the text is shorter than 2^63 - 4.
-/
import Derived.Test.YtnijijcbdajodaaCrc1
import Derived.Lib.Hide
namespace Go.Proofs.Ytnijijcbdajodaa
set_option linter.unusedVariables false
set_option linter.unusedSimpArgs false
open Go.RowKit

def num8 (x : Int) : UInt8 := UInt8.ofNat x.toNat
def sealI (l : List UInt8) : List UInt8 := l ++ [num8 (sumI l % 256), num8 (sumI l / 256 % 256), num8 (sumI l / 65536 % 256), num8 (sumI l / 16777216 % 256)]


set_option maxHeartbeats 400000 in
theorem behind_any (l : List UInt8) (g : Nat) (xs : List Int) (n : Nat) (w : World) (hs : l.length + n ≤ maxLen) (hn : xs.length = n)
   (hc : ∀ i, i < n → w.cell? ⟨g, 0 + i, none⟩ = some (.int .u8 (xs.getD i 0))) :
    Calls Try.prog 44 #[.string ⟨l.toArray⟩, .slice (some ⟨g, 0, none⟩) n n] w fun e w' => e = .returned (.string ⟨(l ++ xs.map num8).toArray⟩) ∧ w = w' := by
  unfold maxLen at hs
  have hconv := run_convert_bytes_arg (P := Try.prog) w 38 5 Try.underlying38 Try.underlying5 g 0 n n xs hn hc 9 Try.underlying9
  have hz : (strOfNums xs).size ≤ n := by rw [strOfNums_size]; omega
  clear hc hn
  go_enter Try.func44, Try.ntmps44
  go_wp2
  go_ret
  exact ⟨rfl, rfl⟩

set_option maxHeartbeats 400000 in
theorem seal_any (l : List UInt8) (w : World) (hs : l.length + 4 ≤ maxLen) :
    Calls Try.prog 18 #[.string ⟨l.toArray⟩] w fun e w' => e = .returned (.string ⟨(sealI l).toArray⟩) ∧ Below w.heap.size w w' := by
  go_enter Try.func18, Try.ntmps18
  go_wp2_with fail
  refine (sum_any ⟨l.toArray⟩ _ ?_).mono ?_
  · simp [ByteArray.size]; omega
  rintro e w1 ⟨rfl, hb⟩
  go_wp2_with fail
  refine (behind_any l _ [sumI l % 256, sumI l / 256 % 256, sumI l / 65536 % 256, sumI l / 16777216 % 256] 4 _ hs rfl ?_).mono ?_
  · intro i hi
    match i, hi with
    | 0, _ | 1, _ | 2, _ | 3, _ => rw [World.cell?_alloc_new]; rfl
  rintro e w2 ⟨rfl, rfl⟩
  go_wp2_with fail
  go_ret
  exact ⟨rfl, below_one hb _⟩

def openI (l : List UInt8) : List UInt8 × Bool :=
  if 4 ≤ l.length ∧ sealI (l.take (l.length - 4)) = l then (l.take (l.length - 4), true) else ([], false)

set_option maxHeartbeats 400000 in
theorem open_any (l : List UInt8) (w : World) (hs : l.length + 4 ≤ maxLen) :
    Calls Try.prog 73 #[.string ⟨l.toArray⟩] w fun e w' => e = .returned (.tuple #[.string ⟨(openI l).1.toArray⟩, .bool (openI l).2]) ∧ Below w.heap.size w w' := by
  unfold maxLen at hs
  by_cases h : l.length < 4
  · have e : openI l = ([], false) := by simp [openI]; omega
    rw [e]
    go_enter Try.func73, Try.ntmps73
    go_wp2_with fail
    go_ret2
    exact ⟨rfl, Below.refl _ _⟩
  · by_cases h2 : sealI (l.take (l.length - 4)) = l
    · have e : openI l = (l.take (l.length - 4), true) := by simp [openI, h2]; omega
      rw [e]
      go_enter Try.func73, Try.ntmps73
      go_wp2_with fail
      rw [extract_list]
      refine (seal_any _ _ ?_).mono ?_
      · unfold maxLen; simp; omega
      rintro e w1 ⟨rfl, hb⟩
      go_wp2_with fail
      go_ret2
      rw [extract_list]
      exact ⟨rfl, hb⟩
    · have e : openI l = ([], false) := by simp [openI, h2]
      rw [e]
      go_enter Try.func73, Try.ntmps73
      go_wp2_with fail
      rw [extract_list]
      refine (seal_any _ _ ?_).mono ?_
      · unfold maxLen; simp; omega
      rintro e w1 ⟨rfl, hb⟩
      go_wp2_with fail
      · go_ret2
        exact ⟨rfl, hb⟩
      · exfalso; simp_all

theorem xor_comm (k : IntKind) (a b : Int) : bits BinOp.xor k a b = bits BinOp.xor k b a := by
  simp only [bits]; rw [BitVec.xor_comm]

set_option maxHeartbeats 1000000 in
theorem refSum_any (s : ByteArray) (w : World) (hs : s.size ≤ maxLen) :
    Calls Try.prog 45 #[.string s] w fun e w' => e = .returned (.int .u32 (sumI s.data.toList)) ∧ w = w' := by
  unfold maxLen at hs
  go_enter Try.func45, Try.ntmps45
  go_wp2
  go_loop [3, 4, 5, 6] (fun n i _ _ => ∃ k : Nat, k ≤ s.size ∧ i = .int .i64 k ∧ n = .int .u32 (feedI 4294967295 (s.data.toList.take k))) (fun _ i _ _ => s.size - (intOf i).toNat)
  case atStart => exact ⟨0, Nat.zero_le _, rfl, rfl⟩
  case round =>
    obtain ⟨k, hk, rfl, rfl⟩ := hrel
    by_cases hlt : k < s.size
    · go_wp2
      go_loop [3, 5, 6] (fun n j _ => ∃ m : Nat, m ≤ 8 ∧ j = .int .i64 m ∧ n = .int .u32 (byteI (feedI 4294967295 (s.data.toList.take k)) s[k] m)) (fun _ j _ => 8 - (intOf j).toNat)
      case atStart => exact ⟨0, Nat.zero_le _, rfl, rfl⟩
      case round =>
        obtain ⟨m, hm, rfl, rfl⟩ := hrel
        by_cases hlm : m < 8
        · go_wp2
          all_goals go_round
          case rel => exact ⟨m + 1, by omega, by go_num, congrArg (Value.int IntKind.u32) (if_pos ‹_›).symm⟩
          case measure => simp [intOf]; omega
          case rel => exact ⟨m + 1, by omega, by go_num, congrArg (Value.int IntKind.u32) (if_neg (by simp_all)).symm⟩
          case measure => simp [intOf]; omega
        · go_wp2
          go_round
          case rel =>
            obtain rfl : m = 8 := by omega
            exact ⟨k + 1, by omega, by go_num, by rw [take_snoc s k hlt, feedI_snoc]⟩
          case measure => simp [intOf]; omega
    · go_wp2
      go_ret
      refine ⟨ret_int ?_, rfl⟩
      rw [List.take_of_length_le (by simp; omega), xor_comm]; rfl

set_option maxHeartbeats 400000 in
theorem refSeal_any (l : List UInt8) (w : World) (hs : l.length + 4 ≤ maxLen) :
    Calls Try.prog 26 #[.string ⟨l.toArray⟩] w fun e w' => e = .returned (.string ⟨(sealI l).toArray⟩) ∧ Below w.heap.size w w' := by
  unfold maxLen at hs
  go_enter Try.func26, Try.ntmps26
  go_wp2_with fail
  refine (refSum_any ⟨l.toArray⟩ _ ?_).mono ?_
  · simp [ByteArray.size, maxLen]; omega
  rintro e w1 ⟨rfl, rfl⟩
  have hconv := run_convert_bytes_arg (P := Try.prog) (w.alloc (.cells #[.int .u8 (sumI l % 256), .int .u8 (sumI l / 256 % 256), .int .u8 (sumI l / 65536 % 256), .int .u8 (sumI l / 16777216 % 256)] 5)) 38 5 Try.underlying38 Try.underlying5 w.heap.size 0 4 4 [sumI l % 256, sumI l / 256 % 256, sumI l / 65536 % 256, sumI l / 16777216 % 256] rfl
    (by
      intro i hi
      match i, hi with
      | 0, _ | 1, _ | 2, _ | 3, _ => rw [World.cell?_alloc_new]; rfl) 9 Try.underlying9
  have hz : (strOfNums [sumI l % 256, sumI l / 256 % 256, sumI l / 65536 % 256, sumI l / 16777216 % 256]).size ≤ 4 := by rw [strOfNums_size]; simp
  go_wp2_with fail
  go_ret
  exact ⟨rfl, below_one (Below.refl _ _) _⟩
end Go.Proofs.Ytnijijcbdajodaa
