/-
  The library's sort of a few numbers. No condition.
-/
import Derived.Test.YtffianjbljgnaaaIns
namespace Go.Proofs.Ytffianjbljgnaaa
set_option linter.unusedVariables false
set_option linter.unusedSimpArgs false
open Go.RowKit

set_option maxRecDepth 100000 in
set_option maxHeartbeats 4000000 in
theorem len64_small (n : Nat) (hn : n ≤ 12) (w : World) : Calls Try.prog 88 #[.int .u64 n] w fun e w' => (∃ z : Int, e = .returned (.int .i64 z)) ∧ w = w' := by
  have h : n = 0 ∨ n = 1 ∨ n = 2 ∨ n = 3 ∨ n = 4 ∨ n = 5 ∨ n = 6 ∨ n = 7 ∨ n = 8 ∨ n = 9 ∨ n = 10 ∨ n = 11 ∨ n = 12 := by omega
  rcases h with rfl | rfl | rfl | rfl | rfl | rfl | rfl | rfl | rfl | rfl | rfl | rfl | rfl <;>
  · go_enter Try.func88, Try.ntmps88
    go_wp2_with fail
    go_ret
    exact ⟨⟨_, rfl⟩, rfl⟩

set_option maxHeartbeats 1000000 in
theorem len_small (n : Nat) (hn : n ≤ 12) (w : World) : Calls Try.prog 71 #[.int .u64 n] w fun e w' => (∃ z : Int, e = .returned (.int .i64 z)) ∧ w = w' := by
  go_enter Try.func71, Try.ntmps71
  go_wp2_with fail
  refine (len64_small n hn w).mono ?_
  rintro e w1 ⟨⟨z, rfl⟩, rfl⟩
  go_wp2_with fail
  go_ret
  exact ⟨⟨_, rfl⟩, rfl⟩
/-- What a sort ends with: the row is sorted. -/
def SortEnds (g : Nat) (D : List Nat) (rest : List Value) (w : World) (e : Ending) (w' : World) : Prop :=
  e = .returned (.tuple #[]) ∧ Blk w' g (u64s (isort below64 D) ++ rest) 29 ∧ Mod [g] w w'
set_option maxHeartbeats 1000000 in
theorem pdq_small (g : Nat) (D : List Nat) (rest : List Value) (cap : Nat) (z : Int) (hl : D.length ≤ 12) (hcap : D.length ≤ cap) (w : World) (h : Blk w g (u64s D ++ rest) 29) :
    Calls Try.prog 70 #[.slice (some ⟨g, 0, none⟩) D.length cap, .int .i64 0, .int .i64 D.length, .int .i64 z] w (SortEnds g D rest w) := by
  have hi := insort_any g [] D [] rest cap D.length 0 D.length (by simp) rfl (by simp) hcap (by omega) w (by simpa using h)
  rw [show ((0 : Nat) : Int) = 0 from rfl] at hi
  have HI := Lib.hid hi
  clear hi
  go_enter Try.func70, Try.ntmps70
  have hw0 : IntKind.i64.wrap ((D.length : Int) - 0) = (D.length : Int) := by rw [Int.sub_zero]; exact IntWalk.i64_in _ (by omega)
  go_wp2_with fail
  go_loopw [1, 2, 3] (fun s1 s2 s3 wr => w = wr ∧ s1 = .int .i64 0 ∧ s2 = .int .i64 D.length ∧ s3 = .int .i64 z) (fun _ _ _ _ => 0)
  case atStart => exact ⟨rfl, rfl, rfl, rfl⟩
  case round =>
    obtain ⟨rfl, rfl, rfl, rfl⟩ := hrel
    have hl2 : (D.length : Int) ≤ 12 := by omega
    go_wp2_with fail
    refine HI.out.mono ?_
    rintro e w1 ⟨rfl, hb, hm⟩
    go_wp2_with fail
    refine bodyPost_ret (results_none rfl _ _ _) rfl ?_
    exact ⟨rfl, by simpa using hb, hm⟩
set_option maxHeartbeats 1000000 in
theorem sort_small (g : Nat) (D : List Nat) (rest : List Value) (cap : Nat) (hl : D.length ≤ 12) (hcap : D.length ≤ cap) (w : World) (h : Blk w g (u64s D ++ rest) 29) :
    Calls Try.prog 60 #[.slice (some ⟨g, 0, none⟩) D.length cap] w (SortEnds g D rest w) := by
  have hwc : IntKind.u64.wrap (D.length : Int) = (D.length : Int) := IntWalk.u64_in _ (by omega)
  go_enter Try.func60, Try.ntmps60
  go_wp2_with fail
  refine (len_small D.length hl w).mono ?_
  rintro e w1 ⟨⟨z, rfl⟩, rfl⟩
  go_wp2_with fail
  refine (pdq_small g D rest cap z hl hcap w h).mono ?_
  rintro e w1 ⟨rfl, hb, hm⟩
  go_wp2_with fail
  go_end0
  exact ⟨rfl, hb, hm⟩
end Go.Proofs.Ytffianjbljgnaaa
