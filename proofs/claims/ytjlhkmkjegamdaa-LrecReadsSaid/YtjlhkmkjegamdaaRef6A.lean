/-
  The walks of the document's May, stamp, bit, Check and Encode of layer 6. Condition: sizes that a machine has.
-/
import Derived.Test.YtjlhkmkjegamdaaLaw6A
import Derived.Deep.DeepCutAuto
namespace Go.Proofs.Ytjlhkmkjegamdaa
set_option linter.unusedVariables false
set_option linter.unusedSimpArgs false
open Go.RowKit

set_option maxHeartbeats 1000000 in
theorem rMay_any (r : Rec) (w : World) (hr : r.ok) :
    Calls Try.prog 12 #[recV r] w fun e w' => e = .returned (.int .i64 (may r)) ∧ Below w.heap.size w w' := by
  have hb0 : Blk (w.alloc (.cells #[.string ⟨r.key.toArray⟩, .int .u64 r.lsn, .bool r.del, .string ⟨r.val.toArray⟩] 24)) w.heap.size (recCells r) 24 := Blk.new _ _ _
  have hr1 := (Below.refl w.heap.size w).alloc (Nat.le_refl _) (.cells #[.string ⟨r.key.toArray⟩, .int .u64 r.lsn, .bool r.del, .string ⟨r.val.toArray⟩] 24)
  have h0 : (w.alloc (.cells #[.string ⟨r.key.toArray⟩, .int .u64 r.lsn, .bool r.del, .string ⟨r.val.toArray⟩] 24)).cell? ⟨w.heap.size, 0, none⟩ = some (.string ⟨r.key.toArray⟩) := by rw [hb0.cell]; rfl
  have h2 : (w.alloc (.cells #[.string ⟨r.key.toArray⟩, .int .u64 r.lsn, .bool r.del, .string ⟨r.val.toArray⟩] 24)).cell? ⟨w.heap.size, 2, none⟩ = some (.bool r.del) := by rw [hb0.cell]; rfl
  have h3 : (w.alloc (.cells #[.string ⟨r.key.toArray⟩, .int .u64 r.lsn, .bool r.del, .string ⟨r.val.toArray⟩] 24)).cell? ⟨w.heap.size, 3, none⟩ = some (.string ⟨r.val.toArray⟩) := by rw [hb0.cell]; rfl
  have hk := hr.key
  have hv := hr.val
  clear hb0
  obtain ⟨key, lsn, del, val⟩ := r
  simp only at *
  unfold recV
  simp only
  by_cases h1 : 16 < key.length
  · have HM := Lib.hid (show may ⟨key, lsn, del, val⟩ = 3 by simp [may]; omega)
    have hd : decide ((key.length : Int) > 16) = true := by simp; omega
    go_enter Try.func12, Try.ntmps12
    go_wp2_with fail
    go_ret
    rw [HM.out]
    exact ⟨rfl, hr1⟩
  · have hd : decide ((key.length : Int) > 16) = false := by simp; omega
    by_cases h4 : 24 < val.length
    · have HM := Lib.hid (show may ⟨key, lsn, del, val⟩ = 3 by simp [may]; omega)
      have hd2 : decide ((val.length : Int) > 24) = true := by simp; omega
      go_enter Try.func12, Try.ntmps12
      go_wp2_with fail
      go_ret
      rw [HM.out]
      exact ⟨rfl, hr1⟩
    · have hd2 : decide ((val.length : Int) > 24) = false := by simp; omega
      cases key with
      | nil =>
        have HM := Lib.hid (show may ⟨[], lsn, del, val⟩ = 2 by simp [may]; omega)
        go_enter Try.func12, Try.ntmps12
        go_wp2_with fail
        go_ret
        rw [HM.out]
        exact ⟨rfl, hr1⟩
      | cons c key =>
        have hd1 : decide (16 < (key.length : Int) + 1) = false := by simp at h1 ⊢; omega
        have hk1 : key.length + 1 ≤ 9223372036854775807 := by simpa using hk
        clear hd
        cases del with
        | false =>
          have HM := Lib.hid (show may ⟨c :: key, lsn, false, val⟩ = 0 by unfold may; rw [if_pos ⟨Nat.le_of_not_lt h1, Nat.le_of_not_lt h4⟩, if_pos ⟨by simp, by simp⟩])
          go_enter Try.func12, Try.ntmps12
          go_wp2_with fail
          go_ret
          rw [HM.out]
          exact ⟨rfl, hr1⟩
        | true =>
          cases val with
          | nil =>
            have HM := Lib.hid (show may ⟨c :: key, lsn, true, []⟩ = 0 by unfold may; rw [if_pos ⟨Nat.le_of_not_lt h1, Nat.le_of_not_lt h4⟩, if_pos ⟨by simp, by simp⟩])
            go_enter Try.func12, Try.ntmps12
            go_wp2_with fail
            go_ret
            rw [HM.out]
            exact ⟨rfl, hr1⟩
          | cons v val =>
            have hd3 : decide (24 < (val.length : Int) + 1) = false := by simp at h4 ⊢; omega
            have hv1 : val.length + 1 ≤ 9223372036854775807 := by simpa using hv
            clear hd2
            have HM := Lib.hid (show may ⟨c :: key, lsn, true, v :: val⟩ = 2 by unfold may; rw [if_pos ⟨Nat.le_of_not_lt h1, Nat.le_of_not_lt h4⟩, if_neg (by simp)])
            go_enter Try.func12, Try.ntmps12
            go_wp2_with fail
            go_ret
            rw [HM.out]
            exact ⟨rfl, hr1⟩

set_option maxHeartbeats 400000 in
theorem rStamp_any (n : Nat) (w : World) :
    Calls Try.prog 36 #[.int .u64 n] w fun e w' => e = .returned (.bool (stampB n)) ∧ w = w' := by
  have hs : stampB n = (decide (1 ≤ n) && decide (n ≤ 1099511627776)) := rfl
  by_cases h1 : 1 ≤ n
  · by_cases h2 : n ≤ 1099511627776
    · have HS := Lib.hid (show stampB n = true by rw [hs]; simp [h1, h2])
      clear hs
      go_enter Try.func36, Try.ntmps36
      go_wp2_with fail
      go_ret
      rw [HS.out]
      refine ⟨ret_bool ?_, rfl⟩
      simp; omega
    · have HS := Lib.hid (show stampB n = false by rw [hs]; simp [h2])
      clear hs
      go_enter Try.func36, Try.ntmps36
      go_wp2_with fail
      go_ret
      rw [HS.out]
      refine ⟨ret_bool ?_, rfl⟩
      simp; omega
  · have HS := Lib.hid (show stampB n = false by rw [hs]; simp [h1])
    clear hs
    go_enter Try.func36, Try.ntmps36
    go_wp2_with fail
    go_ret
    rw [HS.out]
    exact ⟨rfl, rfl⟩

theorem rBit_any (b : Bool) (w : World) :
    Calls Try.prog 26 #[.bool b] w fun e w' => e = .returned (.int .u64 (bitN b)) ∧ w = w' := by
  cases b
  all_goals
    go_enter Try.func26, Try.ntmps26
    go_wp2_with fail
    go_ret
    exact ⟨rfl, rfl⟩

set_option maxHeartbeats 4000000 in
theorem rRecs_any (xs ys : List Rec) (a b : Option Addr) (n c m d : Nat) (w : World) (ha : RecsAt w a n c xs) (hb : RecsAt w b m d ys) :
    Calls Try.prog 43 #[.slice a n c, .slice b m d] w fun e w' => e = .returned (.bool (decide (xs = ys))) ∧ Below w.heap.size w w' := by
  have hxl := ha.len
  have hyl := hb.len
  have hmax := ha.max
  go_enter Try.func43, Try.ntmps43
  by_cases h3 : n = m
  · have h3b : ((n : Int) != (m : Int)) = false := by simp [h3]
    subst h3
    go_wp2_with fail
    go_loopw [5] (fun s5 wr => ∃ k : Nat, s5 = .int .i64 k ∧ k ≤ n ∧ Below w.heap.size w wr ∧ ∀ i, i < k → xs[i]? = ys[i]?) (fun s5 _ => n - (intOf s5).toNat)
    case atStart => exact ⟨0, rfl, by omega, Below.refl _ _, fun i hi => by omega⟩
    case round =>
      obtain ⟨k, rfl, hk, hbr, hsame⟩ := hrel
      by_cases hlt : k < n
      · obtain ⟨g, o, rfl, hg, x0, x1, x2, x3⟩ := (ha.on hbr).load k (by omega)
        obtain ⟨g', o', rfl, hg', y0, y1, y2, y3⟩ := (hb.on hbr).load k (by omega)
        have gx : xs[k]? = some (xs[k]'(by omega)) := List.getElem?_eq_getElem (by omega)
        have gy : ys[k]? = some (ys[k]'(by omega)) := List.getElem?_eq_getElem (by omega)
        generalize xs[k]'(by omega) = r at *
        generalize ys[k]'(by omega) = q at *
        by_cases hrq : r = q
        · have hcmp : ∀ w, _ := fun w => run_neq_rec r q w
          rw [show decide (r ≠ q) = false from by simp [hrq]] at hcmp
          unfold recV at hcmp
          go_wp2_with fail
          go_region
          go_wp2_with fail
          refine ⟨⟨k + 1, by simp, by omega, below_drew hbr, fun i hi => ?_⟩, by simp [intOf]; omega⟩
          by_cases hik : i = k
          · rw [hik, gx, gy, hrq]
          · exact hsame i (by omega)
        · have hcmp : ∀ w, _ := fun w => run_neq_rec r q w
          rw [show decide (r ≠ q) = true from by simp [hrq]] at hcmp
          unfold recV at hcmp
          have hne : ¬ xs = ys := by
            intro e
            rw [e, gy] at gx
            exact hrq (Option.some.inj gx).symm
          go_wp2_with fail
          go_region
          go_wp2_with fail
          refine bodyPost_ret (results_tmp rfl _ _ _) rfl ⟨?_, below_drew hbr⟩
          rw [decide_eq_false hne]
          rfl
      · have hkn : k = n := by omega
        have hee : xs = ys := by
          apply List.ext_getElem?
          intro i
          by_cases hi : i < k
          · exact hsame i hi
          · rw [List.getElem?_eq_none (by omega), List.getElem?_eq_none (by omega)]
        go_wp2_with fail
        refine bodyPost_ret (results_tmp rfl _ _ _) rfl ⟨?_, hbr⟩
        rw [decide_eq_true hee]
        rfl
  · have h3b : ((n : Int) != (m : Int)) = true := by simp; omega
    have hne : ¬ xs = ys := by
      intro e
      rw [e] at hxl
      exact h3 (hxl.symm.trans hyl)
    go_wp2_with fail
    refine bodyPost_ret (results_tmp rfl _ _ _) rfl ⟨?_, Below.refl _ _⟩
    rw [decide_eq_false hne]
    rfl

set_option maxHeartbeats 2000000 in
theorem rSame_any (x y : Entry) (a b : Option Addr) (n c m d : Nat) (w : World) (ha : RecsAt w a n c x.ops) (hb : RecsAt w b m d y.ops) :
    Calls Try.prog 18 #[entryV x.ts x.first a n c, entryV y.ts y.first b m d] w fun e w' => e = .returned (.bool (decide (x = y))) ∧ Below w.heap.size w w' := by
  unfold entryV
  go_enter Try.func18, Try.ntmps18
  go_upto_region 1 with fail
  have hE : Blk ((w.alloc (.cells #[.int .u64 x.ts, .int .u64 x.first, .slice a n c] 27)).alloc (.cells #[.int .u64 y.ts, .int .u64 y.first, .slice b m d] 27)) w.heap.size (entryCells x.ts x.first a n c) 27 := (Blk.new w (entryCells x.ts x.first a n c) 27).alloc _
  have hF : Blk ((w.alloc (.cells #[.int .u64 x.ts, .int .u64 x.first, .slice a n c] 27)).alloc (.cells #[.int .u64 y.ts, .int .u64 y.first, .slice b m d] 27)) (w.heap.size + 1) (entryCells y.ts y.first b m d) 27 := by
    rw [show w.heap.size + 1 = (w.alloc (.cells #[.int .u64 x.ts, .int .u64 x.first, .slice a n c] 27)).heap.size from by simp]
    exact Blk.new _ _ _
  have hbl := ((Below.refl w.heap.size w).alloc (Nat.le_refl _) (.cells #[.int .u64 x.ts, .int .u64 x.first, .slice a n c] 27)).alloc (by simp) (.cells #[.int .u64 y.ts, .int .u64 y.first, .slice b m d] 27)
  have ha1 := ha.on hbl
  have hb1 := hb.on hbl
  generalize (w.alloc (.cells #[.int .u64 x.ts, .int .u64 x.first, .slice a n c] 27)).alloc (.cells #[.int .u64 y.ts, .int .u64 y.first, .slice b m d] 27) = w1 at *
  generalize hEe : w.heap.size = E at *
  generalize E + 1 = F at *
  clear ha hb
  obtain ⟨e0, e1, e2⟩ := entry_load hE
  obtain ⟨f0, f1, f2⟩ := entry_load hF
  clear hE hF
  obtain ⟨xt, xf, xs⟩ := x
  obtain ⟨yt, yf, ys⟩ := y
  simp only at *
  by_cases h1 : xt = yt
  · have h1b : ((xt : Int) == (yt : Int)) = true := by simp [h1]
    by_cases h2 : xf = yf
    · have h2b : ((xf : Int) == (yf : Int)) = true := by simp [h2]
      have hee : decide ((⟨xt, xf, xs⟩ : Entry) = ⟨yt, yf, ys⟩) = decide (xs = ys) := by rw [decide_eq_decide, h1, h2]; simp
      have HE := Lib.hid hee
      clear hee h1 h2
      go_wp2_with fail
      refine (rRecs_any xs ys a b n c m d _ ha1 hb1).mono ?_
      rintro e w2 ⟨rfl, hb2⟩
      go_wp2_with fail
      refine bodyPost_ret (results_tmp rfl _ _ _) rfl ⟨?_, hEe ▸ hbl.trans (hb2.mono (hEe ▸ hbl.size))⟩
      rw [HE.out]
      rfl
    · have h2b : ((xf : Int) == (yf : Int)) = false := by simp; omega
      have hne : ¬ (⟨xt, xf, xs⟩ : Entry) = ⟨yt, yf, ys⟩ := by
        intro e
        cases e
        exact h2 rfl
      go_wp2_with fail
      refine bodyPost_ret (results_tmp rfl _ _ _) rfl ⟨?_, hEe ▸ hbl⟩
      rw [decide_eq_false hne]
      rfl
  · have h1b : ((xt : Int) == (yt : Int)) = false := by simp; omega
    have hne : ¬ (⟨xt, xf, xs⟩ : Entry) = ⟨yt, yf, ys⟩ := by
      intro e
      cases e
      exact h1 rfl
    go_wp2_with fail
    refine bodyPost_ret (results_tmp rfl _ _ _) rfl ⟨?_, hEe ▸ hbl⟩
    rw [decide_eq_false hne]
    rfl
end Go.Proofs.Ytjlhkmkjegamdaa
