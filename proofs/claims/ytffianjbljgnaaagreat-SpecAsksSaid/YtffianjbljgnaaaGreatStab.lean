/-
  The library's stable sort of few ints by the comparison of spec.calls; cmp.Compare of ints. Condition: what the comparison answers of the elements (hcmp).
-/
import Derived.Test.YtffianjbljgnaaaGreatInsI
namespace Go.Proofs.YtffianjbljgnaaaGreat
set_option linter.unusedVariables false
set_option linter.unusedSimpArgs false
open Go.RowKit

/-- What a sort by the comparison ends with. -/
def StabEnds (cv : Nat → Nat → Int) (g : Nat) (D : List Nat) (rest : List Value) (w : World) (e : Ending) (w' : World) : Prop :=
  e = .returned (.tuple #[]) ∧ Blk w' g (i64s (isort (ltI cv) D) ++ rest) 3 ∧ Mod [g] w w'
set_option maxHeartbeats 1000000 in
theorem stab_small (g : Nat) (D : List Nat) (rest : List Value) (cap : Nat) (hl : D.length < 20) (hcap : D.length ≤ cap) (cv : Nat → Nat → Int) (CB : Nat) (w : World) (hcmp : ∀ w', Mod [g] w w' → ∀ x y, x ∈ D → y ∈ D → Calls Tryz.prog 39 #[.int .i64 x, .int .i64 y, .pointer (some ⟨CB, 0, none⟩)] w' fun e w'' => e = .returned (.int .i64 (cv x y)) ∧ Below w'.heap.size w' w'') (h : Blk w g (i64s D ++ rest) 3) :
    Calls Tryz.prog 54 #[.slice (some ⟨g, 0, none⟩) D.length cap, .int .i64 D.length, .func (.func 39) #[] #[.pointer (some ⟨CB, 0, none⟩)]] w (StabEnds cv g D rest w) := by
  have hi := insortI_any g [] D [] rest cap D.length 0 D.length (by simp) rfl (by simp) hcap (by omega) cv CB w hcmp (by simpa using h)
  rw [show ((0 : Nat) : Int) = 0 from rfl] at hi
  have HI := Lib.hid hi
  clear hi hcmp
  have hl2 : ¬ (20 : Int) ≤ (D.length : Int) := by omega
  have hl3 : ¬ (20 : Int) < (D.length : Int) := by omega
  go_enter Tryz.func54, Tryz.ntmps54
  go_wp2_with fail
  go_loopw [7, 8] (fun s7 s8 wr => w = wr ∧ s7 = .int .i64 0 ∧ s8 = .int .i64 20) (fun _ _ _ => 0)
  case atStart => exact ⟨rfl, rfl, rfl⟩
  case round =>
    obtain ⟨rfl, rfl, rfl⟩ := hrel
    go_wp2_with fail
    refine HI.out.mono ?_
    rintro e w1 ⟨rfl, hb, hm⟩
    go_wp2_with fail
    go_loopw [6, 7, 8, 9] (fun s6 s7 s8 s9 wr => w1 = wr ∧ s6 = .int .i64 20) (fun _ _ _ _ _ => 0)
    case atStart => exact ⟨rfl, rfl⟩
    case round =>
      obtain ⟨rfl, rfl⟩ := hrel
      go_wp2_with fail
      go_end0
      exact ⟨rfl, by simpa using hb, hm⟩
set_option maxHeartbeats 1000000 in
theorem stable_small (g : Nat) (D : List Nat) (rest : List Value) (cap : Nat) (hl : D.length < 20) (hcap : D.length ≤ cap) (cv : Nat → Nat → Int) (CB : Nat) (w : World) (hcmp : ∀ w', Mod [g] w w' → ∀ x y, x ∈ D → y ∈ D → Calls Tryz.prog 39 #[.int .i64 x, .int .i64 y, .pointer (some ⟨CB, 0, none⟩)] w' fun e w'' => e = .returned (.int .i64 (cv x y)) ∧ Below w'.heap.size w' w'') (h : Blk w g (i64s D ++ rest) 3) :
    Calls Tryz.prog 38 #[.slice (some ⟨g, 0, none⟩) D.length cap, .func (.func 39) #[] #[.pointer (some ⟨CB, 0, none⟩)]] w (StabEnds cv g D rest w) := by
  have HS := Lib.hid (stab_small g D rest cap hl hcap cv CB w hcmp h)
  clear hcmp
  go_enter Tryz.func38, Tryz.ntmps38
  go_wp2_with fail
  refine HS.out.mono ?_
  rintro e w1 ⟨rfl, hb, hm⟩
  go_wp2_with fail
  go_end0
  exact ⟨rfl, hb, hm⟩

/-- What cmp.Compare says. -/
def cmpI (x y : Int) : Int := if x < y then -1 else if y < x then 1 else 0
theorem cmpI_neg (x y : Int) : cmpI x y < 0 ↔ x < y := by
  unfold cmpI
  split
  · simp; assumption
  · split <;> simp <;> omega
theorem isNaNi_any (x : Int) (w : World) : Calls Tryz.prog 55 #[.int .i64 x] w fun e w' => e = .returned (.bool false) ∧ w = w' := by
  go_enter Tryz.func55, Tryz.ntmps55
  go_wp2_with fail
  go_ret
  exact ⟨by simp, rfl⟩
set_option maxHeartbeats 1000000 in
theorem compare_int (x y : Int) (w : World) : Calls Tryz.prog 40 #[.int .i64 x, .int .i64 y] w fun e w' => e = .returned (.int .i64 (cmpI x y)) ∧ w = w' := by
  have HN := Lib.hid (fun z => isNaNi_any z w)
  go_enter Tryz.func40, Tryz.ntmps40
  go_wp2_with fail
  refine (HN.out x).mono ?_
  rintro e w1 ⟨rfl, rfl⟩
  go_wp2_with fail
  refine (HN.out y).mono ?_
  rintro e w1 ⟨rfl, rfl⟩
  by_cases h1 : x < y
  · have HC := Lib.hid (show cmpI x y = -1 by unfold cmpI; rw [if_pos h1])
    go_wp2_with fail
    go_ret
    exact ⟨by rw [HC.out]; rfl, rfl⟩
  · by_cases h2 : y < x
    · have HC := Lib.hid (show cmpI x y = 1 by unfold cmpI; rw [if_neg h1, if_pos h2])
      go_wp2_with fail
      go_ret
      exact ⟨by rw [HC.out]; rfl, rfl⟩
    · have HC := Lib.hid (show cmpI x y = 0 by unfold cmpI; rw [if_neg h1, if_neg h2])
      go_wp2_with fail
      go_ret
      exact ⟨by rw [HC.out]; rfl, rfl⟩
end Go.Proofs.YtffianjbljgnaaaGreat
