/-
  The walk of apart. No condition.
-/
import Derived.Test.YtmicpjdlldjapaaSpW
namespace Go.Proofs.Ytmicpjdlldjapaa
set_option linter.unusedVariables false
set_option linter.unusedSimpArgs false
open Go.RowKit

def locCells (p : Pc) : List Value := [.int .i64 p.seg, .int .i64 p.pl, .int .i64 p.n]
def locsCells (ls : List Pc) : List Value := ls.flatMap locCells
theorem locs_get (ls : List Pc) (i : Nat) (p : Pc) (h : ls[i]? = some p) : (locsCells ls)[i * 3]? = some (.int .i64 p.seg) ∧ (locsCells ls)[i * 3 + 1]? = some (.int .i64 p.pl) ∧ (locsCells ls)[i * 3 + 2]? = some (.int .i64 p.n) := by
  induction ls generalizing i with
  | nil => simp at h
  | cons q qs ih =>
    have e : locsCells (q :: qs) = locCells q ++ locsCells qs := rfl
    rw [e]
    cases i with
    | zero => cases h; exact ⟨rfl, rfl, rfl⟩
    | succ i =>
      have := ih i (by simpa using h)
      have hl : (locCells q).length = 3 := rfl
      refine ⟨?_, ?_, ?_⟩
      · rw [List.getElem?_append_right (by omega), hl, show (i + 1) * 3 - 3 = i * 3 by omega]; exact this.1
      · rw [List.getElem?_append_right (by omega), hl, show (i + 1) * 3 + 1 - 3 = i * 3 + 1 by omega]; exact this.2.1
      · rw [List.getElem?_append_right (by omega), hl, show (i + 1) * 3 + 2 - 3 = i * 3 + 2 by omega]; exact this.2.2
/-- Pieces stand in a slice. -/
def LocsAt (w : World) (a : Option Addr) (n c : Nat) (ls : List Pc) : Prop :=
  ls.length = n ∧ n ≤ c ∧ n ≤ 10000 ∧ ∀ i p, ls[i]? = some p → ∃ g, a = some ⟨g, 0, none⟩ ∧ g < w.heap.size ∧ w.cell? ⟨g, i * 3, none⟩ = some (.int .i64 p.seg) ∧ w.cell? ⟨g, i * 3 + 1, none⟩ = some (.int .i64 p.pl) ∧ w.cell? ⟨g, i * 3 + 2, none⟩ = some (.int .i64 p.n)
theorem LocsAt.on {w w' : World} {a : Option Addr} {n c : Nat} {ls : List Pc} (h : LocsAt w a n c ls) (hb : Below w.heap.size w w') : LocsAt w' a n c ls := by
  obtain ⟨h1, h2, h3, h4⟩ := h
  refine ⟨h1, h2, h3, fun i p hp => ?_⟩
  obtain ⟨g, e, hg, c1, c2, c3⟩ := h4 i p hp
  exact ⟨g, e, Nat.lt_of_lt_of_le hg hb.size, (hb.cell (p := ⟨g, i * 3, none⟩) hg).trans c1, (hb.cell (p := ⟨g, i * 3 + 1, none⟩) hg).trans c2, (hb.cell (p := ⟨g, i * 3 + 2, none⟩) hg).trans c3⟩
theorem own_locs {w : World} {B : Nat} {v : Value} {ls : List Pc} (h : w.ownsRow B 31 3 v ls.length (locsCells ls)) (hl : ls.length ≤ 10000) : ∃ a c, v = .slice a ls.length c ∧ LocsAt w a ls.length c ls := by
  rcases h.2 with ⟨rfl, h0⟩ | ⟨g, cap, cur, rfl, hg, hh, hc, _⟩
  · refine ⟨none, 0, by rw [h0], rfl, by omega, hl, fun i p hp => ?_⟩
    have := (List.getElem?_eq_some_iff.1 hp).1
    omega
  · refine ⟨_, cap, rfl, rfl, hc, hl, fun i p hp => ⟨g, rfl, (Array.getElem?_eq_some_iff.1 hh).1, ?_⟩⟩
    have hi := (List.getElem?_eq_some_iff.1 hp).1
    obtain ⟨e1, e2, e3⟩ := locs_get ls i p hp
    exact ⟨by rw [h.cellAt _ (by omega)]; exact e1, by rw [h.cellAt _ (by omega)]; exact e2, by rw [h.cellAt _ (by omega)]; exact e3⟩

def sumCells (ls : List Pc) : List Value := (List.range 20).map fun j => .int .i64 (liveN ls j)
theorem sum_get (ls : List Pc) (j : Nat) (h : j < 20) : (sumCells ls)[j]? = some (.int .i64 (liveN ls j)) := by
  unfold sumCells
  rw [List.getElem?_map, List.getElem?_range h]; rfl
theorem sum_set (ls : List Pc) (p : Pc) (h : p.seg < 20) : (sumCells ls).set p.seg (.int .i64 ((liveN ls p.seg : Int) + p.n)) = sumCells (ls ++ [p]) := by
  apply List.ext_getElem?
  intro j
  by_cases hj : j < 20
  · rw [sum_get _ _ hj, liveN_append]
    by_cases he : p.seg = j
    · subst he
      rw [List.getElem?_set_self (by simp [sumCells]; exact h), if_pos rfl]
      congr 2
    · rw [List.getElem?_set_ne he, sum_get _ _ hj, if_neg he]; rfl
  · rw [List.getElem?_eq_none (by simp [sumCells]; omega), List.getElem?_eq_none (by simp [sumCells]; omega)]
theorem liveOf_eq {S : Sp} (h : S.Good) (j : Nat) : S.liveOf j = liveN S.ls j := by
  unfold Sp.liveOf
  by_cases hj : j < S.segs
  · rw [if_pos ⟨by omega, by omega⟩]; simp
  · rw [if_neg (by omega)]
    exact ((liveN_pos h.pos j).2 (fun p hp e => by have := (h.inv.fit p hp).1; omega)).symm

set_option maxRecDepth 10000 in
set_option maxHeartbeats 4000000 in
theorem apart_any (S : Sp) (hS0 : S.Good) (hc : S.cnt < 10000) (h20 : S.segs ≤ 20) (b g cap : Nat) (ms : List Nat) (a : Option Addr) (n c : Nat) (w : World) (h : SpAt w b g cap ms S) (hl : LocsAt w a n c S.ls) :
    Calls Try.prog 23 #[.pointer (some ⟨b, 0, none⟩), .slice a n c, .int .i64 S.per] w fun e w' => e = .returned (.bool true) ∧ Below w.heap.size w w' := by
  have hper := hS0.inv.per
  have hnl := hl.2.2.1
  go_enter Try.func23, Try.ntmps23
  go_upto_region 2 with fail
  have hA0 : Blk (w.alloc (.cells #[.int .i64 0, .int .i64 0, .int .i64 0, .int .i64 0, .int .i64 0, .int .i64 0, .int .i64 0, .int .i64 0, .int .i64 0, .int .i64 0, .int .i64 0, .int .i64 0, .int .i64 0, .int .i64 0, .int .i64 0, .int .i64 0, .int .i64 0, .int .i64 0, .int .i64 0, .int .i64 0] 66)) w.heap.size (sumCells []) 66 := Blk.new w (sumCells []) _
  have hb0 := (Below.refl w.heap.size w).alloc (Nat.le_refl _) (.cells #[.int .i64 0, .int .i64 0, .int .i64 0, .int .i64 0, .int .i64 0, .int .i64 0, .int .i64 0, .int .i64 0, .int .i64 0, .int .i64 0, .int .i64 0, .int .i64 0, .int .i64 0, .int .i64 0, .int .i64 0, .int .i64 0, .int .i64 0, .int .i64 0, .int .i64 0, .int .i64 0] 66)
  generalize w.alloc (.cells #[.int .i64 0, .int .i64 0, .int .i64 0, .int .i64 0, .int .i64 0, .int .i64 0, .int .i64 0, .int .i64 0, .int .i64 0, .int .i64 0, .int .i64 0, .int .i64 0, .int .i64 0, .int .i64 0, .int .i64 0, .int .i64 0, .int .i64 0, .int .i64 0, .int .i64 0, .int .i64 0] 66) = w0 at *
  have hAge : w.heap.size < w0.heap.size := hA0.lt
  generalize hA : w.heap.size = A at *
  go_wp2_with fail
  go_loopw [8, 9, 10, 11] (fun s8 _ _ _ wr => ∃ i : Nat, i ≤ n ∧ s8 = .int .i64 i ∧ Blk wr A (sumCells (S.ls.take i)) 66 ∧ Below A w wr) (fun s8 _ _ _ _ => n - (intOf s8).toNat)
  case atStart => exact ⟨0, by omega, rfl, hA0, hb0⟩
  case round =>
    obtain ⟨i, hi, rfl, hAr, hbr⟩ := hrel
    have hbr' : Below w.heap.size w wr := by rw [hA]; exact hbr
    by_cases hlt : i < n
    · obtain ⟨p, hp⟩ : ∃ p, S.ls[i]? = some p := ⟨_, List.getElem?_eq_getElem (by rw [hl.1]; exact hlt)⟩
      obtain ⟨G, rfl, hG, c0, c1, c2⟩ := (hl.on hbr').2.2.2 i p hp
      have hpm := List.mem_of_getElem? hp
      have hfit := hS0.inv.fit p hpm
      have hcc := hl.2.1
      have HSum := Lib.hid (show ((sumCells (S.ls.take i)).set p.seg (.int .i64 ((liveN (S.ls.take i) p.seg : Int) + p.n))) = sumCells (S.ls.take (i + 1)) by rw [sum_set _ _ (by omega), List.take_add_one, hp]; rfl)
      have HAp := Lib.hid (show ∀ (k : Nat) (q : Pc), k < i → S.ls[k]? = some q → ¬ (p.seg = q.seg ∧ p.pl < q.pl + q.n ∧ q.pl < p.pl + p.n) from fun k q hk hq hh => by
        obtain ⟨hk', rfl⟩ := List.getElem?_eq_some_iff.1 hq
        obtain ⟨hi', rfl⟩ := List.getElem?_eq_some_iff.1 hp
        have := (List.pairwise_iff_getElem.1 hS0.inv.apart) k i hk' hi' hk hh.1.symm
        omega)
      have hlv : liveN (S.ls.take i) p.seg ≤ 640000 := by
        have h1 := liveN_le (ls := S.ls.take i) (fun q hq => by have := hS0.inv.fit q (List.mem_of_mem_take hq); omega) p.seg
        have h2 := List.length_take_le i S.ls
        have h3 := hS0.cnt
        have h4 : (S.ls.take i).length ≤ 10000 := by have := List.length_take_le' i S.ls; omega
        omega
      have hAc : wr.cell? ⟨A, p.seg, none⟩ = some (.int .i64 (liveN (S.ls.take i) p.seg)) := by rw [hAr.cell]; exact sum_get _ _ (by omega)
      have HFit := Lib.hid (fun q (hq : q ∈ S.ls) => hS0.inv.fit q hq)
      generalize liveN (S.ls.take i) p.seg = lv at *
      generalize S.ls.take i = tk at *
      clear hp hpm
      obtain ⟨sg, pl, nn⟩ := p
      simp only at c0 c1 c2 hfit HSum HAp hAc
      go_upto_region 6 with fail
      have hL : Blk (wr.alloc (.cells #[.int .i64 sg, .int .i64 pl, .int .i64 nn] 31)) wr.heap.size [.int .i64 sg, .int .i64 pl, .int .i64 nn] 31 := Blk.new _ _ _
      have hbL := (Below.refl wr.heap.size wr).alloc (Nat.le_refl _) (.cells #[.int .i64 sg, .int .i64 pl, .int .i64 nn] 31)
      generalize wr.alloc (.cells #[.int .i64 sg, .int .i64 pl, .int .i64 nn] 31) = w1 at *
      have hAr1 := hAr.on hbL
      have hAlt := hAr.lt
      have hb1 := hbr'.on hbL
      have l0 : w1.cell? ⟨wr.heap.size, 0, none⟩ = some (.int .i64 sg) := by rw [hL.cell]; rfl
      have l1 : w1.cell? ⟨wr.heap.size, 1, none⟩ = some (.int .i64 pl) := by rw [hL.cell]; rfl
      have l2 : w1.cell? ⟨wr.heap.size, 2, none⟩ = some (.int .i64 nn) := by rw [hL.cell]; rfl
      have hAc1 : w1.cell? ⟨A, sg, none⟩ = some (.int .i64 lv) := (hbL.cell (p := ⟨A, sg, none⟩) hAlt).trans hAc
      generalize hLL : wr.heap.size = L at *
      have q1 : ¬ ((sg : Int) < 0) := by omega
      have q2 : ¬ ((19 : Int) < sg) := by omega
      have q6 : (sg : Int) < 20 := by omega
      have q3 : ¬ ((pl : Int) < 0) := by omega
      have q4 : ¬ ((nn : Int) < 1) := by omega
      have hw1 : IntKind.i64.wrap ((pl : Int) + nn) = (pl : Int) + nn := IntWalk.i64_in _ (by omega)
      have q5 : ¬ ((S.per : Int) < (pl : Int) + nn) := by omega
      have hw2 : IntKind.i64.wrap ((lv : Int) + nn) = (lv : Int) + nn := IntWalk.i64_in _ (by omega)
      clear c0 c1 c2 hAc hAr hbL hbr hbr'
      go_upto_region 8 with fail
      have HF := Lib.hid (show ∀ w', Below w1.heap.size w1 w' → (w'.cell? ⟨L, 0, none⟩ = some (.int .i64 sg) ∧ w'.cell? ⟨L, 1, none⟩ = some (.int .i64 pl) ∧ w'.cell? ⟨L, 2, none⟩ = some (.int .i64 nn) ∧ w'.cell? ⟨A, sg, none⟩ = some (.int .i64 lv)) from
        fun w' hb => ⟨by rw [(hL.on hb).cell]; rfl, by rw [(hL.on hb).cell]; rfl, by rw [(hL.on hb).cell]; rfl, (hb.cell (p := ⟨A, sg, none⟩) hAr1.lt).trans hAc1⟩)
      refine wp_region_settle_then 10 (Below w1.heap.size w1) (by kernel_rfl) (by kernel_rfl) (by kernel_rfl) (by kernel_rfl) (by kernel_rfl) (below_drew (Below.refl _ _)) ?_
      repeat (first
        | (refine settledL_not ?_ ?_
           · rfl
           simp only [Act.put, List.setIfInBounds_toArray, List.set_cons_zero, List.set_cons_succ])
        | (refine settledL_val (v := ?_) ?_ (fun w' hS => ?_) ?_
           rotate_left
           · rfl
           · obtain ⟨k0, k1, k2, k3⟩ := HF.out w' hS
             go_simp
             with_reducible rfl
           simp only [Act.put, List.setIfInBounds_toArray, List.set_cons_zero, List.set_cons_succ]))
      refine settledL_end (fun w2 hS => ?_)
      obtain ⟨_, _, _, hAc2⟩ := HF.out w2 hS
      have hAf2 := (hAr1.on hS).free sg
      have hA3 := (hAr1.on hS).set sg (.int .i64 ((lv : Int) + nn))
      rw [HSum.out] at hA3
      have hL3 := (hL.on hS).other ⟨A, sg, none⟩ (.int .i64 ((lv : Int) + nn)) (by show L ≠ A; omega)
      have hb3 := (hb1.on hS).setCell (p := ⟨A, sg, none⟩) (by show w.heap.size ≤ A; omega) (.int .i64 ((lv : Int) + nn))
      refine seq_step (by rfl) (fun K hK => ?_)
      go_simp
      refine hK.out _ _ (seq_nil ?_)
      clear hK K HF hS l0 l1 l2 hAc1 hAc2 hAf2 hAr1 hL
      generalize w2.setCell ⟨A, sg, none⟩ (.int .i64 ((lv : Int) + nn)) = w3 at *
      clear q1 q2 q3 q4 q5 hw2
      go_wp2_with fail
      go_loopw [10, 11] (fun s10 _ wx => ∃ k : Nat, k ≤ i ∧ s10 = .int .i64 k ∧ Below w3.heap.size w3 wx) (fun s10 _ _ => i - (intOf s10).toNat)
      case atStart => exact ⟨0, by omega, rfl, Below.refl _ _⟩
      case round =>
        obtain ⟨k, hk, rfl, hbx⟩ := hrel
        by_cases hki : k < i
        · obtain ⟨q, hq⟩ : ∃ q, S.ls[k]? = some q := ⟨_, List.getElem?_eq_getElem (by rw [hl.1]; omega)⟩
          obtain ⟨G', e, hG', c0, c1, c2⟩ := (hl.on (hb3.on hbx)).2.2.2 k q hq
          cases e
          have hap := HAp.out k q hki hq
          have hfq := HFit.out q (List.mem_of_getElem? hq)
          clear hq
          obtain ⟨sg2, pl2, nn2⟩ := q
          simp only at c0 c1 c2 hap hfq
          have HAP := Lib.hid hap
          clear hap
          go_upto_region 13 with fail
          have hM : Blk (wr.alloc (.cells #[.int .i64 sg2, .int .i64 pl2, .int .i64 nn2] 31)) wr.heap.size [.int .i64 sg2, .int .i64 pl2, .int .i64 nn2] 31 := Blk.new _ _ _
          have hbM := (Below.refl wr.heap.size wr).alloc (Nat.le_refl _) (.cells #[.int .i64 sg2, .int .i64 pl2, .int .i64 nn2] 31)
          generalize wr.alloc (.cells #[.int .i64 sg2, .int .i64 pl2, .int .i64 nn2] 31) = w4 at *
          have hb34 := hbx.on hbM
          have hL4 := hL3.on hb34
          have l0 : w4.cell? ⟨L, 0, none⟩ = some (.int .i64 sg) := by rw [hL4.cell]; rfl
          have l1 : w4.cell? ⟨L, 1, none⟩ = some (.int .i64 pl) := by rw [hL4.cell]; rfl
          have l2 : w4.cell? ⟨L, 2, none⟩ = some (.int .i64 nn) := by rw [hL4.cell]; rfl
          have m0 : w4.cell? ⟨wr.heap.size, 0, none⟩ = some (.int .i64 sg2) := by rw [hM.cell]; rfl
          have m1 : w4.cell? ⟨wr.heap.size, 1, none⟩ = some (.int .i64 pl2) := by rw [hM.cell]; rfl
          have m2 : w4.cell? ⟨wr.heap.size, 2, none⟩ = some (.int .i64 nn2) := by rw [hM.cell]; rfl
          have hw3 : IntKind.i64.wrap ((pl2 : Int) + nn2) = (pl2 : Int) + nn2 := IntWalk.i64_in _ (by omega)
          clear c0 c1 c2 hM hbM hL4
          by_cases o1 : sg = sg2
          · have o1' : ((sg : Int) == sg2) = true := by simp [o1]
            by_cases o2 : (pl : Int) < (pl2 : Int) + nn2
            · have o3 : ¬ ((pl2 : Int) < (pl : Int) + nn) := fun hx => HAP.out ⟨o1, by omega, by omega⟩
              clear o1
              go_wp2_with fail
              go_roundw
              case rel => exact ⟨k + 1, by omega, by go_num, hb34⟩
              case measure => simp [intOf]; omega
            · clear o1
              go_wp2_with fail
              go_roundw
              case rel => exact ⟨k + 1, by omega, by go_num, hb34⟩
              case measure => simp [intOf]; omega
          · have o1' : ((sg : Int) == sg2) = false := by simp; omega
            clear o1
            go_wp2_with fail
            go_roundw
            case rel => exact ⟨k + 1, by omega, by go_num, hb34⟩
            case measure => simp [intOf]; omega
        · have hA5 := hA3.on hbx
          have hb5 := hb3.on hbx
          rw [hA] at hb5
          go_wp2_with fail
          go_roundw
          case rel => exact ⟨i + 1, by omega, by go_num, hA5, hb5⟩
          case measure => simp [intOf]; omega
    · have hin : S.ls.take i = S.ls := List.take_of_length_le (by rw [hl.1]; omega)
      rw [hin] at hAr
      clear hin hbr
      generalize wr = w9 at *
      go_wp2_with fail
      go_loopw [12] (fun s12 wx => ∃ k : Nat, k ≤ 20 ∧ s12 = .int .i64 k ∧ Below w9.heap.size w9 wx) (fun s12 _ => 20 - (intOf s12).toNat)
      case atStart => exact ⟨0, by omega, rfl, Below.refl _ _⟩
      case round =>
        obtain ⟨k, hk, rfl, hbx⟩ := hrel
        by_cases hk20 : k < 20
        · have hsx := h.on (hbr'.on hbx)
          have hAx := hAr.on hbx
          have hAk : wr.cell? ⟨A, k, none⟩ = some (.int .i64 (liveN S.ls k)) := by rw [hAx.cell]; exact sum_get _ _ hk20
          have HF := Lib.hid (show ∀ w', Below wr.heap.size wr w' → w'.cell? ⟨A, k, none⟩ = some (.int .i64 (liveN S.ls k)) from fun w' hb => (hb.cell (p := ⟨A, k, none⟩) hAx.lt).trans hAk)
          have HLv := Lib.hid (show ∀ w', Below wr.heap.size wr w' → Calls Try.prog 21 #[.pointer (some ⟨b, 0, none⟩), .int .i64 k] w' fun e w'' => e = .returned (.int .i64 (liveN S.ls k)) ∧ Below wr.heap.size wr w'' from
            fun w' hb => (live_any S b g cap ms k w' (hsx.on hb) hS0.inv.segs.2).mono fun e w'' ⟨h1, h2⟩ => ⟨by rw [h1, liveOf_eq hS0], by rw [← h2]; exact hb⟩)
          clear hAk
          generalize liveN S.ls k = lv at *
          have q6 : (k : Int) < 20 := by omega
          go_upto_region 18 with fail
          refine wp_region_settle (Below wr.heap.size wr) (by kernel_rfl) (by kernel_rfl) (by kernel_rfl) (below_drew (Below.refl _ _)) ?_
          repeat (first
            | (refine settled_not ?_ ?_
               · rfl
               simp only [Act.put, List.setIfInBounds_toArray, List.set_cons_zero, List.set_cons_succ])
            | (refine settled_val (v := ?_) ?_ (fun w' hS => ?_) ?_
               rotate_left
               · rfl
               · have k0 := HF.out w' hS
                 go_simp
                 with_reducible rfl
               simp only [Act.put, List.setIfInBounds_toArray, List.set_cons_zero, List.set_cons_succ])
            | (refine settled_call (f := 21) (v := .int .i64 lv) ?_ (fun w' hS => ?_) (fun w' hS => HLv.out w' hS) ?_
               · rfl
               · go_simp
               simp only [Act.put, List.setIfInBounds_toArray, List.set_cons_zero, List.set_cons_succ]))
          refine settled_nil (fun w4 hS => ?_)
          have hb4 := hbx.on hS
          clear HF HLv hS
          go_wp2_with fail
          go_roundw
          case rel => exact ⟨k + 1, by omega, by go_num, hb4⟩
          case measure => simp [intOf]; omega
        · have hbe := hbr'.on hbx
          go_wp2_with fail
          go_ret
          exact ⟨rfl, hbe⟩
end Go.Proofs.Ytmicpjdlldjapaa
