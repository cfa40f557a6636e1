/-
  The walks of the document's May, Recs, Less, and of layer 14's stamp and bit. Condition: sizes that a machine has.
-/
import Derived.Test.YtnijijcbdajodaaLaw14A
import Derived.Test.YtnijijcbdajodaaWireQ
namespace Go.Proofs.Ytnijijcbdajodaa
set_option linter.unusedVariables false
set_option linter.unusedSimpArgs false
open Go.RowKit

set_option maxHeartbeats 1000000 in
theorem rMay_any (r : Rec) (w : World) (hr : r.ok) :
    Calls Try.prog 71 #[recV r] w fun e w' => e = .returned (.int .i64 (may r)) ∧ Below w.heap.size w w' := by
  have hb0 : Blk (w.alloc (.cells #[.string ⟨r.key.toArray⟩, .int .u64 r.lsn, .bool r.del, .string ⟨r.val.toArray⟩] 43)) w.heap.size (recCells r) 43 := Blk.new _ _ _
  have hr1 := (Below.refl w.heap.size w).alloc (Nat.le_refl _) (.cells #[.string ⟨r.key.toArray⟩, .int .u64 r.lsn, .bool r.del, .string ⟨r.val.toArray⟩] 43)
  have h0 : (w.alloc (.cells #[.string ⟨r.key.toArray⟩, .int .u64 r.lsn, .bool r.del, .string ⟨r.val.toArray⟩] 43)).cell? ⟨w.heap.size, 0, none⟩ = some (.string ⟨r.key.toArray⟩) := by rw [hb0.cell]; rfl
  have h2 : (w.alloc (.cells #[.string ⟨r.key.toArray⟩, .int .u64 r.lsn, .bool r.del, .string ⟨r.val.toArray⟩] 43)).cell? ⟨w.heap.size, 2, none⟩ = some (.bool r.del) := by rw [hb0.cell]; rfl
  have h3 : (w.alloc (.cells #[.string ⟨r.key.toArray⟩, .int .u64 r.lsn, .bool r.del, .string ⟨r.val.toArray⟩] 43)).cell? ⟨w.heap.size, 3, none⟩ = some (.string ⟨r.val.toArray⟩) := by rw [hb0.cell]; rfl
  have hk := hr.key
  have hv := hr.val
  clear hb0
  obtain ⟨key, lsn, del, val⟩ := r
  simp only at *
  unfold recV
  simp only
  by_cases h1 : 16 < key.length
  · have HM := Lib.hid (show may ⟨key, lsn, del, val⟩ = 3 by simp [may]; omega)
    have hd : decide ((key.length : Int) > 16) = true := by simp; omega
    go_enter Try.func71, Try.ntmps71
    go_wp2_with fail
    go_ret
    rw [HM.out]
    exact ⟨rfl, hr1⟩
  · have hd : decide ((key.length : Int) > 16) = false := by simp; omega
    by_cases h4 : 24 < val.length
    · have HM := Lib.hid (show may ⟨key, lsn, del, val⟩ = 3 by simp [may]; omega)
      have hd2 : decide ((val.length : Int) > 24) = true := by simp; omega
      go_enter Try.func71, Try.ntmps71
      go_wp2_with fail
      go_ret
      rw [HM.out]
      exact ⟨rfl, hr1⟩
    · have hd2 : decide ((val.length : Int) > 24) = false := by simp; omega
      cases key with
      | nil =>
        have HM := Lib.hid (show may ⟨[], lsn, del, val⟩ = 2 by simp [may]; omega)
        go_enter Try.func71, Try.ntmps71
        go_wp2_with fail
        go_ret
        rw [HM.out]
        exact ⟨rfl, hr1⟩
      | cons c key =>
        have hd1 : decide (16 < (key.length : Int) + 1) = false := by simp at h1 ⊢; omega
        have hk1 : key.length + 1 ≤ 9223372036854775807 := by simpa using hk
        clear hd
        cases del with
        | false =>
          have HM := Lib.hid (show may ⟨c :: key, lsn, false, val⟩ = 0 by unfold may; rw [if_pos ⟨Nat.le_of_not_lt h1, Nat.le_of_not_lt h4⟩, if_pos ⟨by simp, by simp⟩])
          go_enter Try.func71, Try.ntmps71
          go_wp2_with fail
          go_ret
          rw [HM.out]
          exact ⟨rfl, hr1⟩
        | true =>
          cases val with
          | nil =>
            have HM := Lib.hid (show may ⟨c :: key, lsn, true, []⟩ = 0 by unfold may; rw [if_pos ⟨Nat.le_of_not_lt h1, Nat.le_of_not_lt h4⟩, if_pos ⟨by simp, by simp⟩])
            go_enter Try.func71, Try.ntmps71
            go_wp2_with fail
            go_ret
            rw [HM.out]
            exact ⟨rfl, hr1⟩
          | cons v val =>
            have hd3 : decide (24 < (val.length : Int) + 1) = false := by simp at h4 ⊢; omega
            have hv1 : val.length + 1 ≤ 9223372036854775807 := by simpa using hv
            clear hd2
            have HM := Lib.hid (show may ⟨c :: key, lsn, true, v :: val⟩ = 2 by unfold may; rw [if_pos ⟨Nat.le_of_not_lt h1, Nat.le_of_not_lt h4⟩, if_neg (by simp)])
            go_enter Try.func71, Try.ntmps71
            go_wp2_with fail
            go_ret
            rw [HM.out]
            exact ⟨rfl, hr1⟩

set_option maxHeartbeats 400000 in
theorem rStamp_any (n : Nat) (w : World) :
    Calls Try.prog 70 #[.int .u64 n] w fun e w' => e = .returned (.bool (stampB n)) ∧ w = w' := by
  have hs : stampB n = (decide (1 ≤ n) && decide (n ≤ 1099511627776)) := rfl
  by_cases h1 : 1 ≤ n
  · by_cases h2 : n ≤ 1099511627776
    · have HS := Lib.hid (show stampB n = true by rw [hs]; simp [h1, h2])
      clear hs
      go_enter Try.func70, Try.ntmps70
      go_wp2_with fail
      go_ret
      rw [HS.out]
      refine ⟨ret_bool ?_, rfl⟩
      simp; omega
    · have HS := Lib.hid (show stampB n = false by rw [hs]; simp [h2])
      clear hs
      go_enter Try.func70, Try.ntmps70
      go_wp2_with fail
      go_ret
      rw [HS.out]
      refine ⟨ret_bool ?_, rfl⟩
      simp; omega
  · have HS := Lib.hid (show stampB n = false by rw [hs]; simp [h1])
    clear hs
    go_enter Try.func70, Try.ntmps70
    go_wp2_with fail
    go_ret
    rw [HS.out]
    exact ⟨rfl, rfl⟩

theorem rBit_any (b : Bool) (w : World) :
    Calls Try.prog 25 #[.bool b] w fun e w' => e = .returned (.int .u64 (bitM b)) ∧ w = w' := by
  cases b
  all_goals
    go_enter Try.func25, Try.ntmps25
    go_wp2_with fail
    go_ret
    exact ⟨rfl, rfl⟩

set_option maxHeartbeats 4000000 in
theorem rRecs_any (xs ys : List Rec) (a b : Option Addr) (n c m d : Nat) (w : World) (ha : RecsAt w a n c xs) (hb : RecsAt w b m d ys) :
    Calls Try.prog 42 #[.slice a n c, .slice b m d] w fun e w' => e = .returned (.bool (decide (xs = ys))) ∧ Below w.heap.size w w' := by
  have hxl := ha.len
  have hyl := hb.len
  have hmax := ha.max
  go_enter Try.func42, Try.ntmps42
  by_cases h3 : n = m
  · have h3b : ((n : Int) != (m : Int)) = false := by simp [h3]
    subst h3
    go_wp2_with fail
    go_loopw [5] (fun s5 wr => ∃ k : Nat, s5 = .int .i64 k ∧ k ≤ n ∧ Below w.heap.size w wr ∧ ∀ i, i < k → xs[i]? = ys[i]?) (fun s5 _ => n - (intOf s5).toNat)
    case atStart => exact ⟨0, rfl, by omega, Below.refl _ _, fun i hi => by omega⟩
    case round =>
      obtain ⟨k, rfl, hk, hbr, hsame⟩ := hrel
      by_cases hlt : k < n
      · obtain ⟨g, o, rfl, hg, x0, x1, x2, x3⟩ := (ha.on hbr).load k (by omega)
        obtain ⟨g', o', rfl, hg', y0, y1, y2, y3⟩ := (hb.on hbr).load k (by omega)
        have gx : xs[k]? = some (xs[k]'(by omega)) := List.getElem?_eq_getElem (by omega)
        have gy : ys[k]? = some (ys[k]'(by omega)) := List.getElem?_eq_getElem (by omega)
        generalize xs[k]'(by omega) = r at *
        generalize ys[k]'(by omega) = q at *
        by_cases hrq : r = q
        · have hcmp : ∀ w, _ := fun w => run_neq_rec r q w
          rw [show decide (r ≠ q) = false from by simp [hrq]] at hcmp
          unfold recV at hcmp
          go_wp2_with fail
          go_region
          go_wp2_with fail
          refine ⟨⟨k + 1, by simp, by omega, below_drew hbr, fun i hi => ?_⟩, by simp [intOf]; omega⟩
          by_cases hik : i = k
          · rw [hik, gx, gy, hrq]
          · exact hsame i (by omega)
        · have hcmp : ∀ w, _ := fun w => run_neq_rec r q w
          rw [show decide (r ≠ q) = true from by simp [hrq]] at hcmp
          unfold recV at hcmp
          have hne : ¬ xs = ys := by
            intro e
            rw [e, gy] at gx
            exact hrq (Option.some.inj gx).symm
          go_wp2_with fail
          go_region
          go_wp2_with fail
          refine bodyPost_ret (results_tmp rfl _ _ _) rfl ⟨?_, below_drew hbr⟩
          rw [decide_eq_false hne]
          rfl
      · have hkn : k = n := by omega
        have hee : xs = ys := by
          apply List.ext_getElem?
          intro i
          by_cases hi : i < k
          · exact hsame i hi
          · rw [List.getElem?_eq_none (by omega), List.getElem?_eq_none (by omega)]
        go_wp2_with fail
        refine bodyPost_ret (results_tmp rfl _ _ _) rfl ⟨?_, hbr⟩
        rw [decide_eq_true hee]
        rfl
  · have h3b : ((n : Int) != (m : Int)) = true := by simp; omega
    have hne : ¬ xs = ys := by
      intro e
      rw [e] at hxl
      exact h3 (hxl.symm.trans hyl)
    go_wp2_with fail
    refine bodyPost_ret (results_tmp rfl _ _ _) rfl ⟨?_, Below.refl _ _⟩
    rw [decide_eq_false hne]
    rfl


theorem less_cons (x : UInt8) (a b : List UInt8) : Op.bytesLess (x :: a) (x :: b) = Op.bytesLess a b := by
  simp [Op.bytesLess]
theorem less_drop : ∀ (k : Nat) (a b : List UInt8), k ≤ a.length → k ≤ b.length → a.take k = b.take k → Op.bytesLess a b = Op.bytesLess (a.drop k) (b.drop k)
  | 0, a, b, _, _, _ => rfl
  | k + 1, [], b, h, _, _ => by simp at h
  | k + 1, x :: a, [], _, h, _ => by simp at h
  | k + 1, x :: a, y :: b, h1, h2, h => by
    simp only [List.take_succ_cons, List.cons.injEq] at h
    obtain ⟨rfl, h⟩ := h
    rw [less_cons, List.drop_succ_cons, List.drop_succ_cons]
    exact less_drop k a b (by simpa using h1) (by simpa using h2) h
set_option maxHeartbeats 1000000 in
theorem less_any (a b : List UInt8) (w : World) (ha : a.length ≤ 9223372036854775807) (hb : b.length ≤ 9223372036854775807) :
    Calls Try.prog 89 #[.string ⟨a.toArray⟩, .string ⟨b.toArray⟩] w fun e w' => e = .returned (.bool (Op.bytesLess a b)) ∧ Below w.heap.size w w' := by
  go_enter Try.func89, Try.ntmps89
  go_wp2_with fail
  go_loopw [5] (fun s5 wr => ∃ k : Nat, s5 = .int .i64 k ∧ k ≤ a.length ∧ k ≤ b.length ∧ Below w.heap.size w wr ∧ a.take k = b.take k) (fun s5 _ => a.length - (intOf s5).toNat)
  case atStart => exact ⟨0, rfl, by omega, by omega, Below.refl _ _, rfl⟩
  case round =>
    obtain ⟨k, rfl, hka, hkb, hbr, heq⟩ := hrel
    have hless := less_drop k a b hka hkb heq
    have HE := Lib.hid heq
    clear heq
    by_cases h1 : k < a.length
    · by_cases h2 : k < b.length
      · obtain ⟨x, hx⟩ : ∃ x, a[k] = x := ⟨_, rfl⟩
        obtain ⟨y, hy⟩ : ∃ y, b[k] = y := ⟨_, rfl⟩
        rw [List.drop_eq_getElem_cons h1, List.drop_eq_getElem_cons h2, hx, hy] at hless
        have HL := Lib.hid hless
        clear hless
        have gx : (⟨a.toArray⟩ : ByteArray)[k]'(by simpa [ByteArray.size] using h1) = x := by rw [← hx]; show a.toArray[k] = _; simp
        have gy : (⟨b.toArray⟩ : ByteArray)[k]'(by simpa [ByteArray.size] using h2) = y := by rw [← hy]; show b.toArray[k] = _; simp
        by_cases hxy : x = y
        · subst hxy
          have HT := Lib.hid (show a.take (k + 1) = b.take (k + 1) by rw [List.take_succ_eq_append_getElem h1, List.take_succ_eq_append_getElem h2, HE.out, hx, hy])
          go_upto_region 4 with fail
          refine wp_region_settle (Below wr.heap.size wr) (by kernel_rfl) (by kernel_rfl) (by kernel_rfl) (below_drew (Below.refl _ _)) ?_
          repeat (first
            | (refine settled_not ?_ ?_
               · rfl
               simp only [Act.put, List.setIfInBounds_toArray, List.set_cons_zero, List.set_cons_succ])
            | (refine settled_val (v := ?_) ?_ (fun w' hS => ?_) ?_
               rotate_left
               · rfl
               · skip
                 go_simp
                 with_reducible rfl
               simp only [Act.put, List.setIfInBounds_toArray, List.set_cons_zero, List.set_cons_succ]))
          refine settled_nil (fun w' hS => ?_)
          go_wp2_with fail
          refine ⟨⟨k + 1, by simp, by omega, by omega, hbr.on hS, HT.out⟩, by simp [intOf]; omega⟩
        · have hc : ((x.toNat : Int) != (y.toNat : Int)) = true := by
            have : x.toNat ≠ y.toNat := fun e => hxy (UInt8.toNat_inj.1 e)
            simp; omega
          have HH := Lib.hid (show Op.bytesLess a b = decide (x.toNat < y.toNat) by
            rw [HL.out]
            have : (x == y) = false := by simpa using hxy
            simp [Op.bytesLess, this, UInt8.lt_iff_toNat_lt])
          go_upto_region 4 with fail
          refine wp_region_settle (Below wr.heap.size wr) (by kernel_rfl) (by kernel_rfl) (by kernel_rfl) (below_drew (Below.refl _ _)) ?_
          repeat (first
            | (refine settled_not ?_ ?_
               · rfl
               simp only [Act.put, List.setIfInBounds_toArray, List.set_cons_zero, List.set_cons_succ])
            | (refine settled_val (v := ?_) ?_ (fun w' hS => ?_) ?_
               rotate_left
               · rfl
               · skip
                 go_simp
                 with_reducible rfl
               simp only [Act.put, List.setIfInBounds_toArray, List.set_cons_zero, List.set_cons_succ]))
          refine settled_nil (fun w' hS => ?_)
          go_upto_region 5 with fail
          refine wp_region_settle (Below wr.heap.size wr) (by kernel_rfl) (by kernel_rfl) (by kernel_rfl) (below_drew hS) ?_
          repeat (first
            | (refine settled_not ?_ ?_
               · rfl
               simp only [Act.put, List.setIfInBounds_toArray, List.set_cons_zero, List.set_cons_succ])
            | (refine settled_val (v := ?_) ?_ (fun w' hS => ?_) ?_
               rotate_left
               · rfl
               · skip
                 go_simp
                 with_reducible rfl
               simp only [Act.put, List.setIfInBounds_toArray, List.set_cons_zero, List.set_cons_succ]))
          refine settled_nil (fun w' hS => ?_)
          go_wp2_with fail
          go_ret
          rw [HH.out]
          exact ⟨rfl, hbr.on hS⟩
      · have HH := Lib.hid (show Op.bytesLess a b = false by
          rw [hless, List.drop_of_length_le (by omega : b.length ≤ k)]
          cases a.drop k <;> rfl)
        clear hless
        go_wp2_with fail
        go_ret
        rw [HH.out]
        exact ⟨ret_bool (show decide (a.length < b.length) = _ by simp; omega), hbr⟩
    · by_cases h2 : k < b.length
      · have HH := Lib.hid (show Op.bytesLess a b = true by
          rw [hless, List.drop_of_length_le (by omega : a.length ≤ k), List.drop_eq_getElem_cons h2]
          rfl)
        clear hless
        go_wp2_with fail
        go_ret
        rw [HH.out]
        exact ⟨ret_bool (show decide (a.length < b.length) = _ by simp; omega), hbr⟩
      · have HH := Lib.hid (show Op.bytesLess a b = false by
          rw [hless, List.drop_of_length_le (by omega : b.length ≤ k)]
          cases a.drop k <;> rfl)
        clear hless
        go_wp2_with fail
        go_ret
        rw [HH.out]
        exact ⟨ret_bool (show decide (a.length < b.length) = _ by simp; omega), hbr⟩
end Go.Proofs.Ytnijijcbdajodaa
