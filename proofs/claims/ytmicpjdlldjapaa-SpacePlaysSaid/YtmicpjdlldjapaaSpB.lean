/-
  The walks of Live, Empty and Victim. No condition.
-/
import Derived.Test.YtmicpjdlldjapaaSpA
namespace Go.Proofs.Ytmicpjdlldjapaa
set_option linter.unusedVariables false
set_option linter.unusedSimpArgs false
open Go.RowKit

/-! ### The plain part -/
def Sp.isFree (S : Sp) (i : Nat) : Bool := liveN S.ls i == 0
def Sp.isClosed (S : Sp) (i : Nat) : Bool := decide ((i : Int) ≠ S.now) && decide (0 < liveN S.ls i)
def Sp.isEmpty (S : Sp) (i : Nat) : Bool := decide ((i : Int) ≠ S.now) && (liveN S.ls i == 0)
theorem emptyOf_eq (S : Sp) (k : Nat) : S.emptyOf k = ((List.range k).filter S.isEmpty).length := by
  induction k with
  | zero => rfl
  | succ k ih =>
    rw [List.range_succ, List.filter_append, List.length_append, ← ih]
    show S.emptyOf k + (if (k : Int) ≠ S.now ∧ liveN S.ls k = 0 then 1 else 0) = S.emptyOf k + _
    unfold Sp.isEmpty
    by_cases h1 : (k : Int) ≠ S.now <;> by_cases h2 : liveN S.ls k = 0 <;> simp [h1, h2]
def minL (f : Nat → Nat) : List Nat → Nat
  | [] => 0
  | x :: xs => xs.foldl (fun m y => if f y < f m then y else m) x
theorem minL_snoc (f : Nat → Nat) (l : List Nat) (y : Nat) (hl : l ≠ []) : minL f (l ++ [y]) = if f y < f (minL f l) then y else minL f l := by
  cases l with
  | nil => exact absurd rfl hl
  | cons x xs =>
    show (xs ++ [y]).foldl (fun m y => if f y < f m then y else m) x = _
    rw [List.foldl_append]
    rfl
theorem minL_take (f : Nat → Nat) (l : List Nat) (i : Nat) (h1 : 1 ≤ i) (h2 : i < l.length) : minL f (l.take (i + 1)) = if f l[i] < f (minL f (l.take i)) then l[i] else minL f (l.take i) := by
  rw [List.take_add_one, List.getElem?_eq_getElem h2]
  exact minL_snoc f _ _ (by intro e; have := congrArg List.length e; simp only [List.length_take, List.length_nil] at this; omega)
theorem minL_mem (f : Nat → Nat) (l : List Nat) (hl : l ≠ []) : minL f l ∈ l := by
  cases l with
  | nil => exact absurd rfl hl
  | cons x xs =>
    have : ∀ (ys : List Nat) (m : Nat), (ys.foldl (fun m y => if f y < f m then y else m) m) = m ∨ (ys.foldl (fun m y => if f y < f m then y else m) m) ∈ ys := by
      intro ys
      induction ys with
      | nil => intro m; exact .inl rfl
      | cons y ys ih =>
        intro m
        simp only [List.foldl_cons]
        split
        · rcases ih y with h | h
          · exact .inr (by rw [h]; simp)
          · exact .inr (by simp [h])
        · rcases ih m with h | h
          · exact .inl h
          · exact .inr (by simp [h])
    rcases this xs x with h | h
    · simp [minL, h]
    · simp [minL, h]
theorem bestOf_eq (S : Sp) (k : Nat) : S.bestOf k = (if (List.range k).filter S.isClosed = [] then none else some (minL (liveN S.ls) ((List.range k).filter S.isClosed))) := by
  induction k with
  | zero => rfl
  | succ k ih =>
    have step : S.bestOf (k + 1) = if ((k : Int) ≠ S.now ∧ 0 < liveN S.ls k ∧ (S.bestOf k).all (fun b => decide (liveN S.ls k < liveN S.ls b)) = true) then some k else S.bestOf k := rfl
    rw [step, ih, List.range_succ, List.filter_append]
    by_cases hc : S.isClosed k = true
    · have h1 : (k : Int) ≠ S.now ∧ 0 < liveN S.ls k := by simpa [Sp.isClosed] using hc
      have h2 : [k].filter S.isClosed = [k] := by simp [hc]
      rw [h2]
      by_cases he : (List.range k).filter S.isClosed = []
      · rw [if_pos he, he, if_pos ⟨h1.1, h1.2, rfl⟩]
        rfl
      · have hne : ¬ ((List.range k).filter S.isClosed ++ [k] = []) := by simp
        rw [if_neg he, if_neg hne, minL_snoc _ _ _ he]
        by_cases hlt : liveN S.ls k < liveN S.ls (minL (liveN S.ls) ((List.range k).filter S.isClosed))
        · rw [if_pos ⟨h1.1, h1.2, by simp [hlt]⟩, if_pos hlt]
        · rw [if_neg (fun hh => hlt (by simpa using hh.2.2)), if_neg hlt]
    · have h2 : [k].filter S.isClosed = [] := by simp [hc]
      rw [h2, List.append_nil, if_neg]
      intro h
      exact hc (by simp only [Sp.isClosed, Bool.and_eq_true, decide_eq_true_eq]; exact ⟨h.1, h.2.1⟩)

/-! ### The walks -/
theorem beq0 (L : Nat) : (((L : Int) == 0) = (L == 0)) := by cases L <;> rfl
set_option maxHeartbeats 1000000 in
theorem free_q (m i L : Nat) (w : World) : Calls Try.prog 30 #[.int .i64 i, .agg #[.map (some m), .int .i64 L]] w fun e w' => e = .returned (.bool (L == 0)) ∧ Below w.heap.size w w' := by
  have hB : Blk (w.alloc (.cells #[.map (some m), .int .i64 L] 56)) w.heap.size [.map (some m), .int .i64 L] 56 := Blk.new _ _ _
  have hb := (Below.refl w.heap.size w).alloc (Nat.le_refl _) (.cells #[.map (some m), .int .i64 L] 56)
  go_enter Try.func30, Try.ntmps30
  go_upto_region 1 with fail
  generalize w.alloc (.cells #[.map (some m), .int .i64 L] 56) = w1 at *
  have d1 : w1.cell? ⟨w.heap.size, 1, none⟩ = some (.int .i64 L) := by rw [hB.cell]; rfl
  go_wp2_with fail
  go_ret
  exact ⟨by rw [← beq0]; rfl, hb⟩
set_option maxHeartbeats 1000000 in
theorem closed_q (CB b m i L : Nat) (now : Int) (w : World) (hC : Blk w CB [.pointer (some ⟨b, 0, none⟩)] 24) (hn : w.cell? ⟨b, 2, none⟩ = some (.int .i64 now)) (hbl : b < w.heap.size) :
    Calls Try.prog 31 #[.int .i64 i, .agg #[.map (some m), .int .i64 L], .pointer (some ⟨CB, 0, none⟩)] w fun e w' => e = .returned (.bool (decide ((i : Int) ≠ now) && decide (0 < L))) ∧ Below w.heap.size w w' := by
  have hB : Blk (w.alloc (.cells #[.map (some m), .int .i64 L] 56)) w.heap.size [.map (some m), .int .i64 L] 56 := Blk.new _ _ _
  have hb := (Below.refl w.heap.size w).alloc (Nat.le_refl _) (.cells #[.map (some m), .int .i64 L] 56)
  have hC1 := hC.on hb
  have hn1 : (w.alloc (.cells #[.map (some m), .int .i64 L] 56)).cell? ⟨b, 2, none⟩ = some (.int .i64 now) := (hb.cell (p := ⟨b, 2, none⟩) hbl).trans hn
  go_enter Try.func31, Try.ntmps31
  go_upto_region 1 with fail
  generalize w.alloc (.cells #[.map (some m), .int .i64 L] 56) = w1 at *
  have d1 : w1.cell? ⟨w.heap.size, 1, none⟩ = some (.int .i64 L) := by rw [hB.cell]; rfl
  have d2 : w1.cell? ⟨CB, 0, none⟩ = some (.pointer (some ⟨b, 0, none⟩)) := by rw [hC1.cell]; rfl
  by_cases h1 : (i : Int) = now
  · have e1 : ((i : Int) != now) = false := by simp [h1]
    have e2 : (decide ((i : Int) ≠ now) && decide (0 < L)) = false := by simp [h1]
    have HE := Lib.hid e2
    clear e2
    go_wp2_with fail
    go_ret
    exact ⟨by rw [HE.out]; rfl, hb⟩
  · have e1 : ((i : Int) != now) = true := by simp [h1]
    have e2 : (decide ((i : Int) ≠ now) && decide (0 < L)) = decide (0 < L) := by simp [h1]
    have HE := Lib.hid e2
    clear e2
    go_wp2_with fail
    go_ret
    exact ⟨by rw [HE.out]; rfl, hb⟩
set_option maxHeartbeats 1000000 in
theorem empty_q (CB b m i L : Nat) (now : Int) (w : World) (hC : Blk w CB [.pointer (some ⟨b, 0, none⟩)] 24) (hn : w.cell? ⟨b, 2, none⟩ = some (.int .i64 now)) (hbl : b < w.heap.size) :
    Calls Try.prog 34 #[.int .i64 i, .agg #[.map (some m), .int .i64 L], .pointer (some ⟨CB, 0, none⟩)] w fun e w' => e = .returned (.bool (decide ((i : Int) ≠ now) && (L == 0))) ∧ Below w.heap.size w w' := by
  have hB : Blk (w.alloc (.cells #[.map (some m), .int .i64 L] 56)) w.heap.size [.map (some m), .int .i64 L] 56 := Blk.new _ _ _
  have hb := (Below.refl w.heap.size w).alloc (Nat.le_refl _) (.cells #[.map (some m), .int .i64 L] 56)
  have hC1 := hC.on hb
  have hn1 : (w.alloc (.cells #[.map (some m), .int .i64 L] 56)).cell? ⟨b, 2, none⟩ = some (.int .i64 now) := (hb.cell (p := ⟨b, 2, none⟩) hbl).trans hn
  go_enter Try.func34, Try.ntmps34
  go_upto_region 1 with fail
  generalize w.alloc (.cells #[.map (some m), .int .i64 L] 56) = w1 at *
  have d1 : w1.cell? ⟨w.heap.size, 1, none⟩ = some (.int .i64 L) := by rw [hB.cell]; rfl
  have d2 : w1.cell? ⟨CB, 0, none⟩ = some (.pointer (some ⟨b, 0, none⟩)) := by rw [hC1.cell]; rfl
  by_cases h1 : (i : Int) = now
  · have e1 : ((i : Int) != now) = false := by simp [h1]
    have e2 : (decide ((i : Int) ≠ now) && (L == 0)) = false := by simp [h1]
    have HE := Lib.hid e2
    clear e2
    go_wp2_with fail
    go_ret
    exact ⟨by rw [HE.out]; rfl, hb⟩
  · have e1 : ((i : Int) != now) = true := by simp [h1]
    have e2 : (decide ((i : Int) ≠ now) && (L == 0)) = (L == 0) := by simp [h1]
    have HE := Lib.hid e2
    clear e2
    go_wp2_with fail
    go_ret
    exact ⟨by rw [HE.out, ← beq0]; rfl, hb⟩

/-- How many sectors of a segment live, as the program tells it. -/
def Sp.liveOf (S : Sp) (seg : Int) : Nat := if 0 ≤ seg ∧ seg < S.segs then liveN S.ls seg.toNat else 0
set_option maxHeartbeats 1000000 in
theorem live_any (S : Sp) (b g cap : Nat) (ms : List Nat) (seg : Int) (w : World) (h : SpAt w b g cap ms S) (hsg : S.segs ≤ 64) :
    Calls Try.prog 21 #[.pointer (some ⟨b, 0, none⟩), .int .i64 seg] w fun e w' => e = .returned (.int .i64 (S.liveOf seg)) ∧ w = w' := by
  obtain ⟨c0, c1, c2, c3⟩ := h.cells
  have hcap := h.len.2
  by_cases h1 : 0 ≤ seg
  · obtain ⟨i, rfl⟩ := Int.eq_ofNat_of_zero_le h1
    by_cases h2 : i < S.segs
    · have HL := Lib.hid (show S.liveOf (i : Int) = liveN S.ls i by unfold Sp.liveOf; rw [if_pos ⟨h1, by omega⟩]; simp)
      obtain ⟨d0, d1, _⟩ := h.seg h2
      go_enter Try.func21, Try.ntmps21
      go_wp2_with fail
      go_ret
      exact ⟨by rw [HL.out]; rfl, rfl⟩
    · have HL := Lib.hid (show S.liveOf (i : Int) = 0 by unfold Sp.liveOf; rw [if_neg (by omega)])
      go_enter Try.func21, Try.ntmps21
      go_wp2_with fail
      go_ret
      exact ⟨by rw [HL.out]; rfl, rfl⟩
  · have HL := Lib.hid (show S.liveOf seg = 0 by unfold Sp.liveOf; rw [if_neg (by omega)])
    go_enter Try.func21, Try.ntmps21
    go_wp2_with fail
    go_ret
    exact ⟨by rw [HL.out]; rfl, rfl⟩

set_option maxHeartbeats 1000000 in
theorem empty_any (S : Sp) (b g cap : Nat) (ms : List Nat) (w : World) (h : SpAt w b g cap ms S) (hsg : S.segs ≤ 64) :
    Calls Try.prog 19 #[.pointer (some ⟨b, 0, none⟩)] w fun e w' => e = .returned (.int .i64 S.empty) ∧ Below w.heap.size w w' := by
  have hB : Blk (w.alloc (.cells #[.pointer (some ⟨b, 0, none⟩)] 24)) w.heap.size [.pointer (some ⟨b, 0, none⟩)] 24 := Blk.new _ _ _
  have hb := (Below.refl w.heap.size w).alloc (Nat.le_refl _) (.cells #[.pointer (some ⟨b, 0, none⟩)] 24)
  have h1 := h.on hb
  go_enter Try.func19, Try.ntmps19
  go_upto_region 1 with fail
  generalize w.alloc (.cells #[.pointer (some ⟨b, 0, none⟩)] 24) = w1 at *
  have d2 : w1.cell? ⟨w.heap.size, 0, none⟩ = some (.pointer (some ⟨b, 0, none⟩)) := by rw [hB.cell]; rfl
  obtain ⟨c0, c1, c2, c3⟩ := h1.cells
  go_wp2_with fail
  refine (which_empty S b g cap ms S.isEmpty w.heap.size w1 h1 hsg (fun i wr hi hbr => empty_q w.heap.size b (nth ms i) i (liveN S.ls i) S.now wr (hB.on hbr) (h1.on hbr).cells.2.2.1 (h1.on hbr).head.lt)).mono ?_
  rintro e w2 ⟨v, rfl, hown, hb2⟩
  have hbe := hb.on hb2
  have HE := Lib.hid (emptyOf_eq S S.segs)
  rcases hown.2 with ⟨rfl, h0⟩ | ⟨gg, cp, cur, rfl, _⟩
  · go_wp2_with fail
    go_ret
    exact ⟨by unfold Sp.empty; rw [HE.out, h0]; rfl, hbe⟩
  · go_wp2_with fail
    go_ret
    exact ⟨by unfold Sp.empty; rw [HE.out]; rfl, hbe⟩
end Go.Proofs.Ytmicpjdlldjapaa
