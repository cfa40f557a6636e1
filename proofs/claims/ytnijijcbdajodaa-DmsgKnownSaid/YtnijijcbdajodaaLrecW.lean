/-
  The walks of package lrec's checks. Condition: sizes that a machine has.
-/
import Derived.Test.YtnijijcbdajodaaLrec
namespace Go.Proofs.Ytnijijcbdajodaa
set_option linter.unusedVariables false
set_option linter.unusedSimpArgs false
open Go.RowKit

/-- An error, unless something is so. -/
def orOK (b : Bool) (e : Int) : Int := if b then 0 else e

set_option maxHeartbeats 400000 in
theorem unless_any (b : Bool) (e : Int) (w : World) :
    Calls Try.prog 87 #[.bool b, .int .i64 e] w fun r w' => r = .returned (.int .i64 (orOK b e)) ∧ w = w' := by
  cases b
  all_goals
    go_enter Try.func87, Try.ntmps87
    go_wp2_with fail
    go_ret
    exact ⟨rfl, rfl⟩

set_option maxHeartbeats 400000 in
theorem may1_any (b : Nat) (r : Rec) (w : World) (h : Blk w b (recCells r) 43) (hr : r.ok) :
    Calls Try.prog 86 #[.pointer (some ⟨b, 0, none⟩)] w fun e w' => e = .returned (.int .i64 (may1 r)) ∧ w = w' := by
  have h0 : w.cell? ⟨b, 0, none⟩ = some (.string ⟨r.key.toArray⟩) := by rw [h.cell]; rfl
  have h3 : w.cell? ⟨b, 3, none⟩ = some (.string ⟨r.val.toArray⟩) := by rw [h.cell]; rfl
  have hk := hr.key
  have hv := hr.val
  unfold may1
  by_cases h1 : r.key.length ≤ 16
  · by_cases h2 : r.val.length ≤ 24
    · rw [if_pos ⟨h1, h2⟩]
      have hd2 : decide ((r.val.length : Int) ≤ 24) = true := by simp; omega
      go_enter Try.func86, Try.ntmps86
      go_wp2_with fail
      refine (unless_any _ _ _).mono ?_
      rintro e w1 ⟨rfl, rfl⟩
      go_wp2_with fail
      go_ret
      exact ⟨rfl, rfl⟩
    · rw [if_neg (fun h => h2 h.2)]
      have hd2 : decide ((r.val.length : Int) ≤ 24) = false := by simp; omega
      go_enter Try.func86, Try.ntmps86
      go_wp2_with fail
      refine (unless_any _ _ _).mono ?_
      rintro e w1 ⟨rfl, rfl⟩
      go_wp2_with fail
      go_ret
      exact ⟨rfl, rfl⟩
  · rw [if_neg (fun h => h1 h.1)]
    go_enter Try.func86, Try.ntmps86
    go_wp2_with fail
    refine (unless_any _ _ _).mono ?_
    rintro e w1 ⟨rfl, rfl⟩
    go_wp2_with fail
    go_ret
    exact ⟨rfl, rfl⟩

set_option maxHeartbeats 400000 in
theorem may2_any (b : Nat) (r : Rec) (w : World) (h : Blk w b (recCells r) 43) :
    Calls Try.prog 88 #[.pointer (some ⟨b, 0, none⟩)] w fun e w' => e = .returned (.int .i64 (may2 r)) ∧ w = w' := by
  have h0 : w.cell? ⟨b, 0, none⟩ = some (.string ⟨r.key.toArray⟩) := by rw [h.cell]; rfl
  have h2 : w.cell? ⟨b, 2, none⟩ = some (.bool r.del) := by rw [h.cell]; rfl
  have h3 : w.cell? ⟨b, 3, none⟩ = some (.string ⟨r.val.toArray⟩) := by rw [h.cell]; rfl
  obtain ⟨key, lsn, del, val⟩ := r
  simp only at *
  clear h
  cases key with
  | nil =>
    have HM := Lib.hid (show may2 ⟨[], lsn, del, val⟩ = 2 by simp [may2])
    go_enter Try.func88, Try.ntmps88
    go_wp2_with fail
    refine (unless_any _ _ _).mono ?_
    rintro e w1 ⟨rfl, rfl⟩
    go_wp2_with fail
    go_ret
    rw [HM.out]
    exact ⟨rfl, rfl⟩
  | cons c key =>
    cases del with
    | false =>
      have HM := Lib.hid (show may2 ⟨c :: key, lsn, false, val⟩ = 0 by simp [may2])
      go_enter Try.func88, Try.ntmps88
      go_wp2_with fail
      refine (unless_any _ _ _).mono ?_
      rintro e w1 ⟨rfl, rfl⟩
      go_wp2_with fail
      go_ret
      rw [HM.out]
      exact ⟨rfl, rfl⟩
    | true =>
      cases val with
      | nil =>
        have HM := Lib.hid (show may2 ⟨c :: key, lsn, true, []⟩ = 0 by simp [may2])
        go_enter Try.func88, Try.ntmps88
        go_wp2_with fail
        refine (unless_any _ _ _).mono ?_
        rintro e w1 ⟨rfl, rfl⟩
        go_wp2_with fail
        go_ret
        rw [HM.out]
        exact ⟨rfl, rfl⟩
      | cons v val =>
        have HM := Lib.hid (show may2 ⟨c :: key, lsn, true, v :: val⟩ = 2 by simp [may2])
        go_enter Try.func88, Try.ntmps88
        go_wp2_with fail
        refine (unless_any _ _ _).mono ?_
        rintro e w1 ⟨rfl, rfl⟩
        go_wp2_with fail
        go_ret
        rw [HM.out]
        exact ⟨rfl, rfl⟩

/-- The first error of two. -/
def pick2 (a b : Int) : Int := if a = 0 then b else a

set_option maxHeartbeats 400000 in
theorem first_may (g : Nat) (c0 c1 : Array Value) (e0 e1 : Int) (w : World) (hg : g < w.heap.size)
    (h0 : w.cell? ⟨g, 0, none⟩ = some (.func (.func 86) #[] c0)) (h1 : w.cell? ⟨g, 1, none⟩ = some (.func (.func 88) #[] c1))
    (H0 : ∀ w', Below w.heap.size w w' → Calls Try.prog 86 c0 w' fun e w'' => e = .returned (.int .i64 e0) ∧ Below w'.heap.size w' w'')
    (H1 : ∀ w', Below w.heap.size w w' → Calls Try.prog 88 c1 w' fun e w'' => e = .returned (.int .i64 e1) ∧ Below w'.heap.size w' w'') :
    Calls Try.prog 85 #[.slice (some ⟨g, 0, none⟩) 2 2] w fun e w' => e = .returned (.int .i64 (pick2 e0 e1)) ∧ Below w.heap.size w w' := by
  have HH0 := Lib.hid H0
  have HH1 := Lib.hid H1
  clear H0 H1
  go_enter Try.func85, Try.ntmps85
  go_wp2_with fail
  go_loopw [8] (fun s8 wr => ∃ i : Nat, i ≤ 2 ∧ s8 = .int .i64 i ∧ Below w.heap.size w wr ∧ (1 ≤ i → e0 = 0) ∧ (2 ≤ i → e1 = 0)) (fun s8 _ => 2 - (intOf s8).toNat)
  case atStart => exact ⟨0, by omega, rfl, Below.refl _ _, fun h => by omega, fun h => by omega⟩
  case round =>
    obtain ⟨i, hi, rfl, hb, hq0, hq1⟩ := hrel
    have hi3 : i = 0 ∨ i = 1 ∨ i = 2 := by omega
    rcases hi3 with rfl | rfl | rfl
    · have h0' : wr.cell? ⟨g, 0, none⟩ = some (.func (.func 86) #[] c0) := by rw [hb.cell (p := ⟨g, 0, none⟩) hg]; exact h0
      clear hq0 hq1 h0 h1
      go_wp2_with fail
      refine (HH0.out _ hb).mono ?_
      rintro e w2 ⟨rfl, hb2⟩
      by_cases he : e0 = 0
      · have He := Lib.hid he
        subst he
        go_wp2_with fail
        go_roundw
        case rel => exact ⟨1, by omega, rfl, hb.on hb2, by simp, by simp⟩
        case measure => simp [intOf]
      · have hne : (e0 == 0) = false := by rw [beq_eq_false_iff_ne]; exact he
        have HE := Lib.hid (show pick2 e0 e1 = e0 from if_neg he)
        clear he
        go_wp2_with fail
        go_ret
        rw [HE.out]
        exact ⟨rfl, hb.on hb2⟩
    · have h1' : wr.cell? ⟨g, 1, none⟩ = some (.func (.func 88) #[] c1) := by rw [hb.cell (p := ⟨g, 1, none⟩) hg]; exact h1
      obtain rfl := hq0 (Nat.le_refl _)
      clear hq0 hq1 h0 h1
      go_wp2_with fail
      refine (HH1.out _ hb).mono ?_
      rintro e w2 ⟨rfl, hb2⟩
      by_cases he : e1 = 0
      · subst he
        go_wp2_with fail
        go_roundw
        case rel => exact ⟨2, by omega, rfl, hb.on hb2, by simp, by simp⟩
        case measure => simp [intOf]
      · have hne : (e1 == 0) = false := by rw [beq_eq_false_iff_ne]; exact he
        go_wp2_with fail
        go_ret
        exact ⟨rfl, hb.on hb2⟩
    · obtain rfl := hq0 (by omega)
      obtain rfl := hq1 (by omega)
      clear hq0 hq1 h0 h1
      go_wp2_with fail
      go_ret
      exact ⟨rfl, hb⟩

set_option maxHeartbeats 400000 in
theorem may_any (r : Rec) (w : World) (hr : r.ok) :
    Calls Try.prog 51 #[recV r] w fun e w' => e = .returned (.int .i64 (may r)) ∧ Below w.heap.size w w' := by
  have hb0 : Blk (w.alloc (.cells #[.string ⟨r.key.toArray⟩, .int .u64 r.lsn, .bool r.del, .string ⟨r.val.toArray⟩] 43)) w.heap.size (recCells r) 43 := Blk.new _ _ _
  have hr1 := (Below.refl w.heap.size w).alloc (Nat.le_refl _) (.cells #[.string ⟨r.key.toArray⟩, .int .u64 r.lsn, .bool r.del, .string ⟨r.val.toArray⟩] 43)
  unfold recV
  go_enter Try.func51, Try.ntmps51
  go_wp2_with fail
  generalize hw1 : w.alloc (.cells #[.string ⟨r.key.toArray⟩, .int .u64 r.lsn, .bool r.del, .string ⟨r.val.toArray⟩] 43) = w1 at *
  have hsz : w1.heap.size = w.heap.size + 1 := by rw [← hw1]; simp
  clear hw1
  rw [← hsz]
  refine (first_may w1.heap.size #[.pointer (some ⟨w.heap.size, 0, none⟩)] #[.pointer (some ⟨w.heap.size, 0, none⟩)] (may1 r) (may2 r) _ ?_ ?_ ?_ ?_ ?_).mono ?_
  · simp
  · rw [World.cell?_alloc_new]; rfl
  · rw [World.cell?_alloc_new]; rfl
  · intro w' hb
    exact (may1_any w.heap.size r w' ((hb0.alloc _).on hb) hr).mono fun e w2 h => ⟨h.1, h.2 ▸ Below.refl _ _⟩
  · intro w' hb
    exact (may2_any w.heap.size r w' ((hb0.alloc _).on hb)).mono fun e w2 h => ⟨h.1, h.2 ▸ Below.refl _ _⟩
  rintro e w2 ⟨rfl, hb⟩
  go_wp2_with fail
  go_ret
  refine ⟨ret_int ?_, hr1.trans ((below_one (Below.refl _ _) _).on hb |>.mono (by omega))⟩
  rw [may_eq]
  unfold pick2
  split <;> split <;> simp_all
end Go.Proofs.Ytnijijcbdajodaa
