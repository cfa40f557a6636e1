/-
  The walk of Victim. No condition.
-/
import Derived.Test.YtmicpjdlldjapaaSpB
namespace Go.Proofs.Ytmicpjdlldjapaa
set_option linter.unusedVariables false
set_option linter.unusedSimpArgs false
open Go.RowKit

set_option maxHeartbeats 1000000 in
theorem cmp_any (S : Sp) (b g cap : Nat) (ms : List Nat) (CB x y : Nat) (w : World) (h : SpAt w b g cap ms S) (hsg : S.segs ≤ 64) (hC : Blk w CB [.pointer (some ⟨b, 0, none⟩)] 24) (hx : x < S.segs) (hy : y < S.segs) (hlx : liveN S.ls x ≤ 1000000) (hly : liveN S.ls y ≤ 1000000) :
    Calls Try.prog 33 #[.int .i64 x, .int .i64 y, .pointer (some ⟨CB, 0, none⟩)] w fun e w' => e = .returned (.int .i64 ((liveN S.ls x : Int) - liveN S.ls y)) ∧ Below w.heap.size w w' := by
  have hcap := h.len.2
  have hwr : IntKind.i64.wrap ((liveN S.ls x : Int) - liveN S.ls y) = (liveN S.ls x : Int) - liveN S.ls y := IntWalk.i64_in _ (by omega)
  go_enter Try.func33, Try.ntmps33
  go_upto_region 1 with fail
  have HF := Lib.hid (show ∀ w', Below w.heap.size w w' → (w'.cell? ⟨b, 0, none⟩ = some (.slice (some ⟨g, 0, none⟩) S.segs cap) ∧ w'.cell? ⟨g, x * 2 + 1, none⟩ = some (.int .i64 (liveN S.ls x)) ∧ w'.cell? ⟨g, y * 2 + 1, none⟩ = some (.int .i64 (liveN S.ls y)) ∧ w'.cell? ⟨CB, 0, none⟩ = some (.pointer (some ⟨b, 0, none⟩))) from
    fun w' hb => ⟨(h.on hb).cells.1, ((h.on hb).seg hx).2.1, ((h.on hb).seg hy).2.1, by rw [(hC.on hb).cell]; rfl⟩)
  refine wp_region_settle (Below w.heap.size w) (by kernel_rfl) (by kernel_rfl) (by kernel_rfl) (below_drew (Below.refl _ _)) ?_
  repeat (first
    | (refine settled_not ?_ ?_
       · rfl
       simp only [Act.put, List.setIfInBounds_toArray, List.set_cons_zero, List.set_cons_succ])
    | (refine settled_val (v := ?_) ?_ (fun w' hS => ?_) ?_
       rotate_left
       · rfl
       · obtain ⟨k0, k1, k2, k3⟩ := HF.out w' hS
         go_simp
         with_reducible rfl
       simp only [Act.put, List.setIfInBounds_toArray, List.set_cons_zero, List.set_cons_succ]))
  refine settled_nil (fun w' hS => ?_)
  go_wp2_with fail
  go_ret
  exact ⟨by first | (rw [← hwr]; rfl) | rfl, hS⟩

set_option maxHeartbeats 1000000 in
theorem min_any (S : Sp) (b g cap : Nat) (ms : List Nat) (CB gg cp : Nat) (l : List Nat) (w : World) (h : SpAt w b g cap ms S) (hsg : S.segs ≤ 64) (hC : Blk w CB [.pointer (some ⟨b, 0, none⟩)] 24) (hl : l ≠ []) (hx : ∀ x ∈ l, x < S.segs) (hlive : ∀ x, x < S.segs → liveN S.ls x ≤ 1000000)
    (hlen : l.length ≤ 64) (hcp : l.length ≤ cp) (hgl : gg < w.heap.size) (hcell : ∀ (j x : Nat), l[j]? = some x → w.cell? ⟨gg, j, none⟩ = some (.int .i64 x)) :
    Calls Try.prog 32 #[.slice (some ⟨gg, 0, none⟩) l.length cp, .func (.func 33) #[] #[.pointer (some ⟨CB, 0, none⟩)]] w fun e w' => e = .returned (.int .i64 (minL (liveN S.ls) l)) ∧ Below w.heap.size w w' := by
  have hpos : 1 ≤ l.length := by cases l with
    | nil => exact absurd rfl hl
    | cons x xs => simp
  have c0 : w.cell? ⟨gg, 0, none⟩ = some (.int .i64 (minL (liveN S.ls) (l.take 1))) := by
    cases l with
    | nil => exact absurd rfl hl
    | cons x xs => exact hcell 0 x rfl
  have HX := Lib.hid hx
  have HC := Lib.hid hcell
  have HLV := Lib.hid hlive
  have HT := Lib.hid (fun (i y : Nat) (h1 : 1 ≤ i) (hy : l[i]? = some y) => show minL (liveN S.ls) (l.take (i + 1)) = if liveN S.ls y < liveN S.ls (minL (liveN S.ls) (l.take i)) then y else minL (liveN S.ls) (l.take i) by
    obtain ⟨h2, rfl⟩ := List.getElem?_eq_some_iff.1 hy
    exact minL_take _ _ _ h1 h2)
  have HM := Lib.hid (fun i (h1 : 1 ≤ i) => minL_mem (liveN S.ls) (l.take i) (by intro e; have := congrArg List.length e; simp only [List.length_take, List.length_nil] at this; omega))
  clear hx hcell hlive
  generalize hf : liveN S.ls = f at *
  generalize hN : l.length = N at *
  go_enter Try.func32, Try.ntmps32
  go_wp2_with fail
  go_loopw [5, 6] (fun s5 s6 wr => ∃ i : Nat, 1 ≤ i ∧ i ≤ N ∧ s6 = .int .i64 i ∧ s5 = .int .i64 (minL f (l.take i)) ∧ Below w.heap.size w wr) (fun _ s6 _ => N - (intOf s6).toNat)
  case atStart => exact ⟨1, by omega, by omega, rfl, rfl, Below.refl _ _⟩
  case round =>
    obtain ⟨i, h1, hi, rfl, rfl, hbr⟩ := hrel
    by_cases hlt : i < N
    · obtain ⟨x, hx⟩ : ∃ x, l[i]? = some x := ⟨_, List.getElem?_eq_getElem (by omega)⟩
      have hxs := HX.out x (List.mem_of_getElem? hx)
      have hms := HX.out _ (List.mem_of_mem_take (HM.out i h1))
      have d0 : wr.cell? ⟨gg, i, none⟩ = some (.int .i64 x) := (hbr.cell (p := ⟨gg, i, none⟩) hgl).trans (HC.out i x hx)
      have HT1 := Lib.hid (HT.out i x h1 hx)
      clear hx
      generalize minL f (l.take i) = m at *
      go_wp2_with fail
      refine (show Calls Try.prog 33 #[.int .i64 x, .int .i64 m, .pointer (some ⟨CB, 0, none⟩)] wr fun e w' => e = .returned (.int .i64 ((f x : Int) - f m)) ∧ Below wr.heap.size wr w' by
        have := cmp_any S b g cap ms CB x m wr (h.on hbr) hsg (hC.on hbr) hxs hms (by rw [hf]; exact HLV.out x hxs) (by rw [hf]; exact HLV.out m hms)
        rw [hf] at this
        exact this).mono ?_
      rintro e w2 ⟨rfl, hb2⟩
      have hbr2 := hbr.on hb2
      have d0 : w2.cell? ⟨gg, i, none⟩ = some (.int .i64 x) := (hb2.cell (p := ⟨gg, i, none⟩) (Nat.lt_of_lt_of_le hgl hbr.size)).trans d0
      by_cases hq : f x < f m
      · have HT2 := Lib.hid (HT1.out.trans (if_pos hq))
        have hq1 : decide ((f x : Int) - f m < 0) = true := by simp; omega
        go_wp2_with fail
        go_roundw
        case rel => exact ⟨i + 1, by omega, by omega, by go_num, by rw [HT2.out], hbr2⟩
        case measure => simp [intOf]; omega
      · have HT2 := Lib.hid (HT1.out.trans (if_neg hq))
        have hq1 : decide ((f x : Int) - f m < 0) = false := by simp; omega
        go_wp2_with fail
        go_roundw
        case rel => exact ⟨i + 1, by omega, by omega, by go_num, by rw [HT2.out], hbr2⟩
        case measure => simp [intOf]; omega
    · obtain rfl : i = N := by omega
      have HE := Lib.hid (show l.take i = l by rw [← hN]; exact List.take_length)
      go_wp2_with fail
      go_ret
      exact ⟨by rw [← HE.out]; simp [HE.out], hbr⟩
set_option maxHeartbeats 1000000 in
theorem victim_any (S : Sp) (b g cap : Nat) (ms : List Nat) (w : World) (h : SpAt w b g cap ms S) (hsg : S.segs ≤ 64) (hlive : ∀ x, x < S.segs → liveN S.ls x ≤ 1000000) :
    Calls Try.prog 17 #[.pointer (some ⟨b, 0, none⟩)] w fun e w' => e = .returned (.tuple #[.int .i64 ((S.victim.getD 0 : Nat) : Int), .bool S.victim.isSome]) ∧ Below w.heap.size w w' := by
  have hB : Blk (w.alloc (.cells #[.pointer (some ⟨b, 0, none⟩)] 24)) w.heap.size [.pointer (some ⟨b, 0, none⟩)] 24 := Blk.new _ _ _
  have hb := (Below.refl w.heap.size w).alloc (Nat.le_refl _) (.cells #[.pointer (some ⟨b, 0, none⟩)] 24)
  have h1 := h.on hb
  go_enter Try.func17, Try.ntmps17
  go_upto_region 1 with fail
  generalize w.alloc (.cells #[.pointer (some ⟨b, 0, none⟩)] 24) = w1 at *
  have d2 : w1.cell? ⟨w.heap.size, 0, none⟩ = some (.pointer (some ⟨b, 0, none⟩)) := by rw [hB.cell]; rfl
  obtain ⟨c0, c1, c2, c3⟩ := h1.cells
  go_wp2_with fail
  refine (which_closed S b g cap ms S.isClosed w.heap.size w1 h1 hsg (fun i wr hi hbr => closed_q w.heap.size b (nth ms i) i (liveN S.ls i) S.now wr (hB.on hbr) (h1.on hbr).cells.2.2.1 (h1.on hbr).head.lt)).mono ?_
  rintro e w2 ⟨v, rfl, hown, hb2⟩
  have hbe := hb.on hb2
  have HE := Lib.hid (show S.victim = _ from bestOf_eq S S.segs)
  have hle : ((List.range S.segs).filter S.isClosed).length ≤ 64 := Nat.le_trans (List.length_filter_le _ _) (by simp; omega)
  have HX := Lib.hid (show ∀ x ∈ (List.range S.segs).filter S.isClosed, x < S.segs from fun x hx => List.mem_range.1 (List.mem_filter.1 hx).1)
  generalize (List.range S.segs).filter S.isClosed = L at *
  have h2 := h1.on hb2
  have d2 : w2.cell? ⟨w.heap.size, 0, none⟩ = some (.pointer (some ⟨b, 0, none⟩)) := by rw [(hB.on hb2).cell]; rfl
  rcases hown.2 with ⟨rfl, h0⟩ | ⟨gg, cp, cur, rfl, _, hgg, hcp, _, _⟩
  · have hL : L = [] := List.eq_nil_of_length_eq_zero h0
    go_wp2_with fail
    go_ret2
    exact ⟨by rw [HE.out, if_pos hL]; rfl, hbe⟩
  · have HOC := Lib.hid hown.cellAt
    have hgl : gg < w2.heap.size := (Array.getElem?_eq_some_iff.1 hgg).1
    clear hown
    by_cases hL : L = []
    · have hl0 : L.length = 0 := by rw [hL]; rfl
      have HE2 := Lib.hid (HE.out.trans (if_pos hL))
      clear hL
      generalize L.length = n at *
      subst hl0
      go_wp2_with fail
      go_ret2
      exact ⟨by rw [HE2.out]; rfl, hbe⟩
    · have hl0 : 0 < L.length := List.length_pos_iff.2 hL
      have HE2 := Lib.hid (HE.out.trans (if_neg hL))
      have HM := Lib.hid (min_any S b g cap ms w.heap.size gg cp L w2 h2 hsg (hB.on hb2) hL HX.out hlive hle hcp hgl (fun j x hj => by
        have hjl : j < L.length := (List.getElem?_eq_some_iff.1 hj).1
        rw [HOC.out j (by omega), List.getElem?_map, hj]; rfl))
      clear hL
      go_wp2_with fail
      refine HM.out.mono ?_
      rintro e w3 ⟨rfl, hb3⟩
      have hbf := hbe.on hb3
      go_wp2_with fail
      go_ret2
      exact ⟨by rw [HE2.out]; rfl, hbf⟩
end Go.Proofs.Ytmicpjdlldjapaa
