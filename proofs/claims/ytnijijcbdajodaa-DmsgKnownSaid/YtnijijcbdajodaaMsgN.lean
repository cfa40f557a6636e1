/-
  The walk of the closure of package dmsg's Encode that lays numbers. Condition: the text is shorter than 2^47.
-/
import Derived.Test.YtnijijcbdajodaaMsgL
namespace Go.Proofs.Ytnijijcbdajodaa
set_option linter.unusedVariables false
set_option linter.unusedSimpArgs false
open Go.RowKit

def numsBytes : List Nat → List UInt8
  | [] => []
  | n :: ns => Wire.putNum n ++ numsBytes ns
theorem numsBytes_snoc (ns : List Nat) (n : Nat) : numsBytes (ns ++ [n]) = numsBytes ns ++ Wire.putNum n := by
  induction ns with
  | nil => simp [numsBytes]
  | cons x xs ih => simp [numsBytes, ih]
theorem numsBytes_len (ns : List Nat) : (numsBytes ns).length ≤ 10 * ns.length := by
  induction ns with
  | nil => simp [numsBytes]
  | cons x xs ih =>
    have h : (Wire.putNum x).length ≤ 10 := (Wire.put_length 9 x).2
    simp only [numsBytes, List.length_append, List.length_cons]
    omega
/-- The cell of the text that is laid. -/
def TextAt (w : World) (S : Nat) (l : List UInt8) : Prop := Blk w S [.string ⟨l.toArray⟩] 9
def NumsAt (w : World) (g : Nat) (xs : List Nat) : Prop := Blk w g (xs.map fun n : Nat => Value.int .u64 (n : Int)) 22

set_option maxHeartbeats 1000000 in
theorem nums_any (g S k : Nat) (xs : List Nat) (l : List UInt8) (w : World) (hk : xs.length = k) (hx : NumsAt w g xs) (hS : TextAt w S l) (hgS : g ≠ S) (hn : ∀ n ∈ xs, n < U64) (hk2 : k ≤ 1000) (hl : l.length ≤ 140737488340000) :
    Calls Try.prog 19 #[.slice (some ⟨g, 0, none⟩) k k, .pointer (some ⟨S, 0, none⟩)] w fun e w' => e = .returned (.tuple #[]) ∧ TextAt w' S (l ++ numsBytes xs) ∧ Mod [S] w w' := by
  have HK := Lib.hid hk
  have hglt := hx.lt
  clear hk
  go_enter Try.func19, Try.ntmps19
  go_wp2_with fail
  go_loopw [4, 7] (fun _ s7 wr => ∃ i : Nat, i ≤ k ∧ s7 = .int .i64 i ∧ TextAt wr S (l ++ numsBytes (xs.take i)) ∧ Mod [S] w wr) (fun _ s7 _ => k - (intOf s7).toNat)
  case atStart => exact ⟨0, by omega, rfl, by simpa [numsBytes] using hS, Mod.refl _ _⟩
  case round =>
    obtain ⟨i, hi, rfl, hT, hmw⟩ := hrel
    by_cases hlt : i < k
    · have hxw : NumsAt wr g xs := Blk.mod hx hmw (by simpa using hgS)
      have hil : i < xs.length := by rw [HK.out]; exact hlt
      obtain ⟨n, hnn⟩ : ∃ n, xs[i]? = some n := ⟨_, List.getElem?_eq_getElem hil⟩
      have hnu := hn n (List.mem_of_getElem? hnn)
      have g0 : wr.cell? ⟨g, i, none⟩ = some (.int .u64 n) := by
        unfold NumsAt at hxw
        rw [hxw.cell, List.getElem?_map, hnn]; rfl
      have hb := numsBytes_len (xs.take i)
      have ht : (xs.take i).length ≤ i := List.length_take_le _ _
      have HN := Lib.hid (show l ++ numsBytes (xs.take i) ++ Wire.putNum n = l ++ numsBytes (xs.take (i + 1)) by
        rw [List.take_add_one, hnn, Option.toList_some, numsBytes_snoc, List.append_assoc])
      have hlen : (l ++ numsBytes (xs.take i)).length ≤ 140737488355328 := by rw [List.length_append]; omega
      clear hnn hb ht
      generalize l ++ numsBytes (xs.take i) = T at *
      have t0 : wr.cell? ⟨S, 0, none⟩ = some (.string ⟨T.toArray⟩) := by unfold TextAt at hT; rw [hT.cell]; rfl
      go_wp2_with fail
      refine (putNum_any T n wr hlen hnu).mono ?_
      rintro e w2 ⟨rfl, hb2⟩
      have hT2 : TextAt w2 S T := Blk.on hT hb2
      have f0 := Blk.free hT2 0
      have t1 : w2.cell? ⟨S, 0, none⟩ = some (.string ⟨T.toArray⟩) := by unfold TextAt at hT2; rw [hT2.cell]; rfl
      have hT3 : TextAt (w2.setCell ⟨S, 0, none⟩ (.string ⟨(T ++ Wire.putNum n).toArray⟩)) S (T ++ Wire.putNum n) := Blk.set hT2 0 _
      have hm3 := (hmw.thenBelow hb2).setCell ⟨S, 0, none⟩ (.string ⟨(T ++ Wire.putNum n).toArray⟩) (.inl (by simp))
      clear g0 t0 hT hmw hb2 hT2 hxw
      go_wp2_with fail
      go_roundw
      case rel => exact ⟨i + 1, by omega, by go_num, by rw [← HN.out]; exact hT3, hm3⟩
      case measure => simp [intOf]; omega
    · have hik : k ≤ i := by omega
      have HX := Lib.hid (show xs.take i = xs from List.take_of_length_le (by rw [HK.out]; omega))
      go_wp2_with fail
      go_end0
      exact ⟨rfl, by rw [← HX.out]; rw [HX.out] at hT; rw [HX.out]; exact hT, hmw⟩
end Go.Proofs.Ytnijijcbdajodaa
