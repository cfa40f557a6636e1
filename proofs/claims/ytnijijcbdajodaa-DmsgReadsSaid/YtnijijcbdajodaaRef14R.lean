/-
  The walk of the document's right of layer 14. Condition: sizes that a machine has.
-/
import Derived.Test.YtnijijcbdajodaaRef14W
namespace Go.Proofs.Ytnijijcbdajodaa
set_option linter.unusedVariables false
set_option linter.unusedSimpArgs false
open Go.RowKit

theorem rmay_lit (k v : List UInt8) (d : Bool) (w : World) (hk : k.length ≤ 9223372036854775807) (hv : v.length ≤ 9223372036854775807) :
    Calls Try.prog 71 #[.agg #[.string ⟨k.toArray⟩, .int .u64 0, .bool d, .string ⟨v.toArray⟩]] w fun e w' => e = .returned (.int .i64 (may ⟨k, 0, d, v⟩)) ∧ Below w.heap.size w w' :=
  rMay_any ⟨k, 0, d, v⟩ w ⟨hk, hv, by show 0 < U64; decide⟩

set_option maxHeartbeats 1000000 in
theorem rRight_1 (m : Msg) (hk : m.kind = 1) (hte : stampB m.te = true) (hm : m.ok) (a : Option Addr) (n c : Nat) (w : World) (h : RecsAt w a n c m.recs) : Calls Try.prog 32 #[msgV m a n c] w fun e w' => e = .returned (.bool (rightM m)) ∧ Below w.heap.size w w' := by
  have hr : rightM m = (true) := by unfold rightM; simp [hk]
  have HK := Lib.hid hk
  clear hk
  have HT := Lib.hid hte
  clear hte
  have hB := (MsgAt.new w m a n c)
  have hb0 := (Below.refl w.heap.size w).alloc (Nat.le_refl _) (msgObj m a n c)
  unfold msgObj at hB hb0
  have hr0 := h.on hb0
  have hkl := hm.key
  have hvl := hm.val
  have hrl := hm.recs
  have HR := Lib.hid hr
  clear h hm hr
  unfold msgV
  go_enter Try.func32, Try.ntmps32
  go_upto_region 1 with fail
  generalize w.alloc (.cells #[.int .i64 m.kind, .int .u64 m.te, .int .u64 m.di, .int .u64 m.id, .int .u64 m.lsn, .int .u64 m.low, .string ⟨m.key.toArray⟩, .string ⟨m.hi.toArray⟩, .bool m.del, .bool m.found, .string ⟨m.val.toArray⟩, .slice a n c, .int .i64 m.err] 26) = w1 at *
  obtain ⟨c0, c1, c2, c3, c4, c5, c6, c7, c8, c9, c10, c11, c12⟩ := hB.cells
  clear hB
  rw [HK.out] at c0
  go_wp2_with fail
  refine (rStamp_any m.te w1).mono ?_
  rw [HT.out]
  rintro e w2 ⟨rfl, rfl⟩
  go_wp2_with fail
  go_ret
  rw [HR.out]
  exact ⟨rfl, hb0⟩

set_option maxHeartbeats 1000000 in
theorem rRight_2 (m : Msg) (hk : m.kind = 2) (hte : stampB m.te = true) (hdi : stampB m.di = true) (hm : m.ok) (a : Option Addr) (n c : Nat) (w : World) (h : RecsAt w a n c m.recs) : Calls Try.prog 32 #[msgV m a n c] w fun e w' => e = .returned (.bool (rightM m)) ∧ Below w.heap.size w w' := by
  have hr : rightM m = (stampB m.lsn && may ⟨m.key, 0, m.del, m.val⟩ == 0) := by unfold rightM; simp [hk]
  have HK := Lib.hid hk
  clear hk
  have HT := Lib.hid hte
  clear hte
  have HD := Lib.hid hdi
  clear hdi
  have hB := (MsgAt.new w m a n c)
  have hb0 := (Below.refl w.heap.size w).alloc (Nat.le_refl _) (msgObj m a n c)
  unfold msgObj at hB hb0
  have hr0 := h.on hb0
  have hkl := hm.key
  have hvl := hm.val
  have hrl := hm.recs
  have HR := Lib.hid hr
  clear h hm hr
  unfold msgV
  go_enter Try.func32, Try.ntmps32
  go_upto_region 1 with fail
  generalize w.alloc (.cells #[.int .i64 m.kind, .int .u64 m.te, .int .u64 m.di, .int .u64 m.id, .int .u64 m.lsn, .int .u64 m.low, .string ⟨m.key.toArray⟩, .string ⟨m.hi.toArray⟩, .bool m.del, .bool m.found, .string ⟨m.val.toArray⟩, .slice a n c, .int .i64 m.err] 26) = w1 at *
  obtain ⟨c0, c1, c2, c3, c4, c5, c6, c7, c8, c9, c10, c11, c12⟩ := hB.cells
  clear hB
  rw [HK.out] at c0
  go_wp2_with fail
  refine (rStamp_any m.te w1).mono ?_
  rw [HT.out]
  rintro e w2 ⟨rfl, rfl⟩
  go_wp2_with fail
  refine (rStamp_any m.di w1).mono ?_
  rw [HD.out]
  rintro e w2 ⟨rfl, rfl⟩
  go_wp2_with fail
  refine (rStamp_any m.lsn w1).mono ?_
  rintro e w2 ⟨rfl, rfl⟩
  have hr := HR.out
  clear HR
  cases hs : stampB m.lsn
  · have HR := Lib.hid (show rightM m = false by rw [hr, hs]; rfl)
    clear hr hs
    go_wp2_with fail
    go_ret
    rw [HR.out]
    exact ⟨rfl, hb0⟩
  · rw [hs] at hr
    have HR := Lib.hid hr
    clear hs hr
    go_wp2_with fail
    refine (rmay_lit m.key m.val m.del w1 hkl hvl).mono ?_
    rintro e w2 ⟨rfl, hb2⟩
    go_wp2_with fail
    go_ret
    refine ⟨ret_bool ?_, hb0.on hb2⟩
    rw [HR.out, Bool.true_and, Bool.eq_iff_iff]
    simp
    try omega

set_option maxHeartbeats 1000000 in
theorem rRight_3 (m : Msg) (hk : m.kind = 3) (hte : stampB m.te = true) (hdi : stampB m.di = true) (hm : m.ok) (a : Option Addr) (n c : Nat) (w : World) (h : RecsAt w a n c m.recs) : Calls Try.prog 32 #[msgV m a n c] w fun e w' => e = .returned (.bool (rightM m)) ∧ Below w.heap.size w w' := by
  have hr : rightM m = (decide (m.lsn ≤ 1099511627776) && decide (m.low ≤ m.lsn)) := by unfold rightM; simp [hk]
  have HK := Lib.hid hk
  clear hk
  have HT := Lib.hid hte
  clear hte
  have HD := Lib.hid hdi
  clear hdi
  have hB := (MsgAt.new w m a n c)
  have hb0 := (Below.refl w.heap.size w).alloc (Nat.le_refl _) (msgObj m a n c)
  unfold msgObj at hB hb0
  have hr0 := h.on hb0
  have hkl := hm.key
  have hvl := hm.val
  have hrl := hm.recs
  have HR := Lib.hid hr
  clear h hm hr
  unfold msgV
  go_enter Try.func32, Try.ntmps32
  go_upto_region 1 with fail
  generalize w.alloc (.cells #[.int .i64 m.kind, .int .u64 m.te, .int .u64 m.di, .int .u64 m.id, .int .u64 m.lsn, .int .u64 m.low, .string ⟨m.key.toArray⟩, .string ⟨m.hi.toArray⟩, .bool m.del, .bool m.found, .string ⟨m.val.toArray⟩, .slice a n c, .int .i64 m.err] 26) = w1 at *
  obtain ⟨c0, c1, c2, c3, c4, c5, c6, c7, c8, c9, c10, c11, c12⟩ := hB.cells
  clear hB
  rw [HK.out] at c0
  go_wp2_with fail
  refine (rStamp_any m.te w1).mono ?_
  rw [HT.out]
  rintro e w2 ⟨rfl, rfl⟩
  go_wp2_with fail
  refine (rStamp_any m.di w1).mono ?_
  rw [HD.out]
  rintro e w2 ⟨rfl, rfl⟩
  go_wp2_with fail
  all_goals
    go_ret
    refine ⟨ret_bool ?_, hb0⟩
    have hr := HR.out
    clear HR c0 c1 c2 c3 c4 c5 c6 c7 c8 c9 c10 c11 c12 hr0 hrl hkl hvl hb0
    rw [hr]
    first
      | (simp_all; done)
      | (rw [Bool.eq_iff_iff]; simp_all; omega)
      | (rw [Bool.eq_iff_iff]; simp; omega)

set_option maxHeartbeats 1000000 in
theorem rRight_4 (m : Msg) (hk : m.kind = 4) (hte : stampB m.te = true) (hdi : stampB m.di = true) (hm : m.ok) (a : Option Addr) (n c : Nat) (w : World) (h : RecsAt w a n c m.recs) : Calls Try.prog 32 #[msgV m a n c] w fun e w' => e = .returned (.bool (rightM m)) ∧ Below w.heap.size w w' := by
  have hr : rightM m = (stampB m.id && !m.key.isEmpty) := by unfold rightM; simp [hk]
  have HK := Lib.hid hk
  clear hk
  have HT := Lib.hid hte
  clear hte
  have HD := Lib.hid hdi
  clear hdi
  have hB := (MsgAt.new w m a n c)
  have hb0 := (Below.refl w.heap.size w).alloc (Nat.le_refl _) (msgObj m a n c)
  unfold msgObj at hB hb0
  have hr0 := h.on hb0
  have hkl := hm.key
  have hvl := hm.val
  have hrl := hm.recs
  have HR := Lib.hid hr
  clear h hm hr
  unfold msgV
  go_enter Try.func32, Try.ntmps32
  go_upto_region 1 with fail
  generalize w.alloc (.cells #[.int .i64 m.kind, .int .u64 m.te, .int .u64 m.di, .int .u64 m.id, .int .u64 m.lsn, .int .u64 m.low, .string ⟨m.key.toArray⟩, .string ⟨m.hi.toArray⟩, .bool m.del, .bool m.found, .string ⟨m.val.toArray⟩, .slice a n c, .int .i64 m.err] 26) = w1 at *
  obtain ⟨c0, c1, c2, c3, c4, c5, c6, c7, c8, c9, c10, c11, c12⟩ := hB.cells
  clear hB
  rw [HK.out] at c0
  go_wp2_with fail
  refine (rStamp_any m.te w1).mono ?_
  rw [HT.out]
  rintro e w2 ⟨rfl, rfl⟩
  go_wp2_with fail
  refine (rStamp_any m.di w1).mono ?_
  rw [HD.out]
  rintro e w2 ⟨rfl, rfl⟩
  go_wp2_with fail
  refine (rStamp_any m.id w1).mono ?_
  rintro e w2 ⟨rfl, rfl⟩
  have hr := HR.out
  clear HR
  cases hs : stampB m.id
  · have HR := Lib.hid (show rightM m = false by rw [hr, hs]; rfl)
    clear hr hs
    go_wp2_with fail
    go_ret
    rw [HR.out]
    exact ⟨rfl, hb0⟩
  · rw [hs] at hr
    have HR := Lib.hid hr
    clear hs hr
    go_wp2_with fail
    all_goals
      go_ret
      refine ⟨ret_bool ?_, hb0⟩
      have hr := HR.out
      clear HR c0 c1 c2 c3 c4 c5 c6 c7 c8 c9 c10 c11 c12 hr0 hrl hkl hvl hb0
      rw [hr]
      first
        | (simp_all; done)
        | (rw [Bool.eq_iff_iff]; simp_all; omega)
        | (rw [Bool.eq_iff_iff]; simp; omega)

set_option maxHeartbeats 1000000 in
theorem rRight_5 (m : Msg) (hk : m.kind = 5) (hte : stampB m.te = true) (hdi : stampB m.di = true) (hm : m.ok) (a : Option Addr) (n c : Nat) (w : World) (h : RecsAt w a n c m.recs) : Calls Try.prog 32 #[msgV m a n c] w fun e w' => e = .returned (.bool (rightM m)) ∧ Below w.heap.size w w' := by
  have hr : rightM m = (stampB m.id) := by unfold rightM; simp [hk]
  have HK := Lib.hid hk
  clear hk
  have HT := Lib.hid hte
  clear hte
  have HD := Lib.hid hdi
  clear hdi
  have hB := (MsgAt.new w m a n c)
  have hb0 := (Below.refl w.heap.size w).alloc (Nat.le_refl _) (msgObj m a n c)
  unfold msgObj at hB hb0
  have hr0 := h.on hb0
  have hkl := hm.key
  have hvl := hm.val
  have hrl := hm.recs
  have HR := Lib.hid hr
  clear h hm hr
  unfold msgV
  go_enter Try.func32, Try.ntmps32
  go_upto_region 1 with fail
  generalize w.alloc (.cells #[.int .i64 m.kind, .int .u64 m.te, .int .u64 m.di, .int .u64 m.id, .int .u64 m.lsn, .int .u64 m.low, .string ⟨m.key.toArray⟩, .string ⟨m.hi.toArray⟩, .bool m.del, .bool m.found, .string ⟨m.val.toArray⟩, .slice a n c, .int .i64 m.err] 26) = w1 at *
  obtain ⟨c0, c1, c2, c3, c4, c5, c6, c7, c8, c9, c10, c11, c12⟩ := hB.cells
  clear hB
  rw [HK.out] at c0
  go_wp2_with fail
  refine (rStamp_any m.te w1).mono ?_
  rw [HT.out]
  rintro e w2 ⟨rfl, rfl⟩
  go_wp2_with fail
  refine (rStamp_any m.di w1).mono ?_
  rw [HD.out]
  rintro e w2 ⟨rfl, rfl⟩
  go_wp2_with fail
  refine (rStamp_any m.id w1).mono ?_
  rintro e w2 ⟨rfl, rfl⟩
  go_wp2_with fail
  go_ret
  rw [HR.out]
  exact ⟨rfl, hb0⟩

set_option maxHeartbeats 1000000 in
theorem rRight_6 (m : Msg) (hk : m.kind = 6) (hte : stampB m.te = true) (hdi : stampB m.di = true) (hm : m.ok) (a : Option Addr) (n c : Nat) (w : World) (h : RecsAt w a n c m.recs) : Calls Try.prog 32 #[msgV m a n c] w fun e w' => e = .returned (.bool (rightM m)) ∧ Below w.heap.size w w' := by
  have hr : rightM m = (stampB m.id && decide (m.lsn ≤ 1099511627776)) := by unfold rightM; simp [hk]
  have HK := Lib.hid hk
  clear hk
  have HT := Lib.hid hte
  clear hte
  have HD := Lib.hid hdi
  clear hdi
  have hB := (MsgAt.new w m a n c)
  have hb0 := (Below.refl w.heap.size w).alloc (Nat.le_refl _) (msgObj m a n c)
  unfold msgObj at hB hb0
  have hr0 := h.on hb0
  have hkl := hm.key
  have hvl := hm.val
  have hrl := hm.recs
  have HR := Lib.hid hr
  clear h hm hr
  unfold msgV
  go_enter Try.func32, Try.ntmps32
  go_upto_region 1 with fail
  generalize w.alloc (.cells #[.int .i64 m.kind, .int .u64 m.te, .int .u64 m.di, .int .u64 m.id, .int .u64 m.lsn, .int .u64 m.low, .string ⟨m.key.toArray⟩, .string ⟨m.hi.toArray⟩, .bool m.del, .bool m.found, .string ⟨m.val.toArray⟩, .slice a n c, .int .i64 m.err] 26) = w1 at *
  obtain ⟨c0, c1, c2, c3, c4, c5, c6, c7, c8, c9, c10, c11, c12⟩ := hB.cells
  clear hB
  rw [HK.out] at c0
  go_wp2_with fail
  refine (rStamp_any m.te w1).mono ?_
  rw [HT.out]
  rintro e w2 ⟨rfl, rfl⟩
  go_wp2_with fail
  refine (rStamp_any m.di w1).mono ?_
  rw [HD.out]
  rintro e w2 ⟨rfl, rfl⟩
  go_wp2_with fail
  refine (rStamp_any m.id w1).mono ?_
  rintro e w2 ⟨rfl, rfl⟩
  have hr := HR.out
  clear HR
  cases hs : stampB m.id
  · have HR := Lib.hid (show rightM m = false by rw [hr, hs]; rfl)
    clear hr hs
    go_wp2_with fail
    go_ret
    rw [HR.out]
    exact ⟨rfl, hb0⟩
  · rw [hs] at hr
    have HR := Lib.hid hr
    clear hs hr
    go_wp2_with fail
    all_goals
      go_ret
      refine ⟨ret_bool ?_, hb0⟩
      have hr := HR.out
      clear HR c0 c1 c2 c3 c4 c5 c6 c7 c8 c9 c10 c11 c12 hr0 hrl hkl hvl hb0
      rw [hr]
      first
        | (simp_all; done)
        | (rw [Bool.eq_iff_iff]; simp_all; omega)
        | (rw [Bool.eq_iff_iff]; simp; omega)

set_option maxHeartbeats 1000000 in
theorem rRight_7 (m : Msg) (hk : m.kind = 7) (hte : stampB m.te = true) (hdi : stampB m.di = true) (hm : m.ok) (a : Option Addr) (n c : Nat) (w : World) (h : RecsAt w a n c m.recs) : Calls Try.prog 32 #[msgV m a n c] w fun e w' => e = .returned (.bool (rightM m)) ∧ Below w.heap.size w w' := by
  have hr : rightM m = (true) := by unfold rightM; simp [hk]
  have HK := Lib.hid hk
  clear hk
  have HT := Lib.hid hte
  clear hte
  have HD := Lib.hid hdi
  clear hdi
  have hB := (MsgAt.new w m a n c)
  have hb0 := (Below.refl w.heap.size w).alloc (Nat.le_refl _) (msgObj m a n c)
  unfold msgObj at hB hb0
  have hr0 := h.on hb0
  have hkl := hm.key
  have hvl := hm.val
  have hrl := hm.recs
  have HR := Lib.hid hr
  clear h hm hr
  unfold msgV
  go_enter Try.func32, Try.ntmps32
  go_upto_region 1 with fail
  generalize w.alloc (.cells #[.int .i64 m.kind, .int .u64 m.te, .int .u64 m.di, .int .u64 m.id, .int .u64 m.lsn, .int .u64 m.low, .string ⟨m.key.toArray⟩, .string ⟨m.hi.toArray⟩, .bool m.del, .bool m.found, .string ⟨m.val.toArray⟩, .slice a n c, .int .i64 m.err] 26) = w1 at *
  obtain ⟨c0, c1, c2, c3, c4, c5, c6, c7, c8, c9, c10, c11, c12⟩ := hB.cells
  clear hB
  rw [HK.out] at c0
  go_wp2_with fail
  refine (rStamp_any m.te w1).mono ?_
  rw [HT.out]
  rintro e w2 ⟨rfl, rfl⟩
  go_wp2_with fail
  refine (rStamp_any m.di w1).mono ?_
  rw [HD.out]
  rintro e w2 ⟨rfl, rfl⟩
  go_wp2_with fail
  go_ret
  rw [HR.out]
  exact ⟨rfl, hb0⟩

set_option maxHeartbeats 1000000 in
theorem rRight_8 (m : Msg) (hk : m.kind = 8) (hte : stampB m.te = true) (hdi : stampB m.di = true) (hm : m.ok) (a : Option Addr) (n c : Nat) (w : World) (h : RecsAt w a n c m.recs) : Calls Try.prog 32 #[msgV m a n c] w fun e w' => e = .returned (.bool (rightM m)) ∧ Below w.heap.size w w' := by
  have hr : rightM m = (stampB m.lsn) := by unfold rightM; simp [hk]
  have HK := Lib.hid hk
  clear hk
  have HT := Lib.hid hte
  clear hte
  have HD := Lib.hid hdi
  clear hdi
  have hB := (MsgAt.new w m a n c)
  have hb0 := (Below.refl w.heap.size w).alloc (Nat.le_refl _) (msgObj m a n c)
  unfold msgObj at hB hb0
  have hr0 := h.on hb0
  have hkl := hm.key
  have hvl := hm.val
  have hrl := hm.recs
  have HR := Lib.hid hr
  clear h hm hr
  unfold msgV
  go_enter Try.func32, Try.ntmps32
  go_upto_region 1 with fail
  generalize w.alloc (.cells #[.int .i64 m.kind, .int .u64 m.te, .int .u64 m.di, .int .u64 m.id, .int .u64 m.lsn, .int .u64 m.low, .string ⟨m.key.toArray⟩, .string ⟨m.hi.toArray⟩, .bool m.del, .bool m.found, .string ⟨m.val.toArray⟩, .slice a n c, .int .i64 m.err] 26) = w1 at *
  obtain ⟨c0, c1, c2, c3, c4, c5, c6, c7, c8, c9, c10, c11, c12⟩ := hB.cells
  clear hB
  rw [HK.out] at c0
  go_wp2_with fail
  refine (rStamp_any m.te w1).mono ?_
  rw [HT.out]
  rintro e w2 ⟨rfl, rfl⟩
  go_wp2_with fail
  refine (rStamp_any m.di w1).mono ?_
  rw [HD.out]
  rintro e w2 ⟨rfl, rfl⟩
  go_wp2_with fail
  refine (rStamp_any m.lsn w1).mono ?_
  rintro e w2 ⟨rfl, rfl⟩
  go_wp2_with fail
  go_ret
  rw [HR.out]
  exact ⟨rfl, hb0⟩

set_option maxHeartbeats 1000000 in
theorem rRight_9 (m : Msg) (hk : m.kind = 9) (hte : stampB m.te = true) (hdi : stampB m.di = true) (hm : m.ok) (a : Option Addr) (n c : Nat) (w : World) (h : RecsAt w a n c m.recs) : Calls Try.prog 32 #[msgV m a n c] w fun e w' => e = .returned (.bool (rightM m)) ∧ Below w.heap.size w w' := by
  have hr : rightM m = (stampB m.id && (m.found || m.val.isEmpty)) := by unfold rightM; simp [hk]
  have HK := Lib.hid hk
  clear hk
  have HT := Lib.hid hte
  clear hte
  have HD := Lib.hid hdi
  clear hdi
  have hB := (MsgAt.new w m a n c)
  have hb0 := (Below.refl w.heap.size w).alloc (Nat.le_refl _) (msgObj m a n c)
  unfold msgObj at hB hb0
  have hr0 := h.on hb0
  have hkl := hm.key
  have hvl := hm.val
  have hrl := hm.recs
  have HR := Lib.hid hr
  clear h hm hr
  unfold msgV
  go_enter Try.func32, Try.ntmps32
  go_upto_region 1 with fail
  generalize w.alloc (.cells #[.int .i64 m.kind, .int .u64 m.te, .int .u64 m.di, .int .u64 m.id, .int .u64 m.lsn, .int .u64 m.low, .string ⟨m.key.toArray⟩, .string ⟨m.hi.toArray⟩, .bool m.del, .bool m.found, .string ⟨m.val.toArray⟩, .slice a n c, .int .i64 m.err] 26) = w1 at *
  obtain ⟨c0, c1, c2, c3, c4, c5, c6, c7, c8, c9, c10, c11, c12⟩ := hB.cells
  clear hB
  rw [HK.out] at c0
  go_wp2_with fail
  refine (rStamp_any m.te w1).mono ?_
  rw [HT.out]
  rintro e w2 ⟨rfl, rfl⟩
  go_wp2_with fail
  refine (rStamp_any m.di w1).mono ?_
  rw [HD.out]
  rintro e w2 ⟨rfl, rfl⟩
  go_wp2_with fail
  refine (rStamp_any m.id w1).mono ?_
  rintro e w2 ⟨rfl, rfl⟩
  have hr := HR.out
  clear HR
  cases hs : stampB m.id
  · have HR := Lib.hid (show rightM m = false by rw [hr, hs]; rfl)
    clear hr hs
    go_wp2_with fail
    go_ret
    rw [HR.out]
    exact ⟨rfl, hb0⟩
  · rw [hs] at hr
    have HR := Lib.hid hr
    clear hs hr
    go_wp2_with fail
    all_goals
      go_ret
      refine ⟨ret_bool ?_, hb0⟩
      have hr := HR.out
      clear HR c0 c1 c2 c3 c4 c5 c6 c7 c8 c9 c10 c11 c12 hr0 hrl hkl hvl hb0
      rw [hr]
      first
        | (simp_all; done)
        | (rw [Bool.eq_iff_iff]; simp_all; omega)
        | (rw [Bool.eq_iff_iff]; simp; omega)

set_option maxHeartbeats 1000000 in
theorem rRight_10 (m : Msg) (hk : m.kind = 10) (hte : stampB m.te = true) (hdi : stampB m.di = true) (hm : m.ok) (a : Option Addr) (n c : Nat) (w : World) (h : RecsAt w a n c m.recs) : Calls Try.prog 32 #[msgV m a n c] w fun e w' => e = .returned (.bool (rightM m)) ∧ Below w.heap.size w w' := by
  have hr : rightM m = (stampB m.id && valuesM m.recs) := by unfold rightM; simp [hk]
  have HK := Lib.hid hk
  clear hk
  have HT := Lib.hid hte
  clear hte
  have HD := Lib.hid hdi
  clear hdi
  have hB := (MsgAt.new w m a n c)
  have hb0 := (Below.refl w.heap.size w).alloc (Nat.le_refl _) (msgObj m a n c)
  unfold msgObj at hB hb0
  have hr0 := h.on hb0
  have hkl := hm.key
  have hvl := hm.val
  have hrl := hm.recs
  have HR := Lib.hid hr
  clear h hm hr
  unfold msgV
  go_enter Try.func32, Try.ntmps32
  go_upto_region 1 with fail
  generalize w.alloc (.cells #[.int .i64 m.kind, .int .u64 m.te, .int .u64 m.di, .int .u64 m.id, .int .u64 m.lsn, .int .u64 m.low, .string ⟨m.key.toArray⟩, .string ⟨m.hi.toArray⟩, .bool m.del, .bool m.found, .string ⟨m.val.toArray⟩, .slice a n c, .int .i64 m.err] 26) = w1 at *
  obtain ⟨c0, c1, c2, c3, c4, c5, c6, c7, c8, c9, c10, c11, c12⟩ := hB.cells
  clear hB
  rw [HK.out] at c0
  go_wp2_with fail
  refine (rStamp_any m.te w1).mono ?_
  rw [HT.out]
  rintro e w2 ⟨rfl, rfl⟩
  go_wp2_with fail
  refine (rStamp_any m.di w1).mono ?_
  rw [HD.out]
  rintro e w2 ⟨rfl, rfl⟩
  go_wp2_with fail
  refine (rStamp_any m.id w1).mono ?_
  rintro e w2 ⟨rfl, rfl⟩
  have hr := HR.out
  clear HR
  cases hs : stampB m.id
  · have HR := Lib.hid (show rightM m = false by rw [hr, hs]; rfl)
    clear hr hs
    go_wp2_with fail
    go_ret
    rw [HR.out]
    exact ⟨rfl, hb0⟩
  · rw [hs] at hr
    have HR := Lib.hid hr
    clear hs hr
    go_wp2_with fail
    refine (rValues_any a n c m.recs w1 hr0 hrl).mono ?_
    rintro e w2 ⟨rfl, hb2⟩
    go_wp2_with fail
    go_ret
    refine ⟨ret_bool ?_, hb0.on hb2⟩
    rw [HR.out, Bool.true_and]

set_option maxHeartbeats 1000000 in
theorem rRight_11 (m : Msg) (hk : m.kind = 11) (hte : stampB m.te = true) (hdi : stampB m.di = true) (hm : m.ok) (a : Option Addr) (n c : Nat) (w : World) (h : RecsAt w a n c m.recs) : Calls Try.prog 32 #[msgV m a n c] w fun e w' => e = .returned (.bool (rightM m)) ∧ Below w.heap.size w w' := by
  have hr : rightM m = (stampB m.id && decide (m.lsn ≤ 1099511627776) && (m.err == 0 || m.err == 7)) := by unfold rightM; simp [hk]
  have HK := Lib.hid hk
  clear hk
  have HT := Lib.hid hte
  clear hte
  have HD := Lib.hid hdi
  clear hdi
  have hB := (MsgAt.new w m a n c)
  have hb0 := (Below.refl w.heap.size w).alloc (Nat.le_refl _) (msgObj m a n c)
  unfold msgObj at hB hb0
  have hr0 := h.on hb0
  have hkl := hm.key
  have hvl := hm.val
  have hrl := hm.recs
  have HR := Lib.hid hr
  clear h hm hr
  unfold msgV
  go_enter Try.func32, Try.ntmps32
  go_upto_region 1 with fail
  generalize w.alloc (.cells #[.int .i64 m.kind, .int .u64 m.te, .int .u64 m.di, .int .u64 m.id, .int .u64 m.lsn, .int .u64 m.low, .string ⟨m.key.toArray⟩, .string ⟨m.hi.toArray⟩, .bool m.del, .bool m.found, .string ⟨m.val.toArray⟩, .slice a n c, .int .i64 m.err] 26) = w1 at *
  obtain ⟨c0, c1, c2, c3, c4, c5, c6, c7, c8, c9, c10, c11, c12⟩ := hB.cells
  clear hB
  rw [HK.out] at c0
  go_wp2_with fail
  refine (rStamp_any m.te w1).mono ?_
  rw [HT.out]
  rintro e w2 ⟨rfl, rfl⟩
  go_wp2_with fail
  refine (rStamp_any m.di w1).mono ?_
  rw [HD.out]
  rintro e w2 ⟨rfl, rfl⟩
  go_wp2_with fail
  refine (rStamp_any m.id w1).mono ?_
  rintro e w2 ⟨rfl, rfl⟩
  have hr := HR.out
  clear HR
  cases hs : stampB m.id
  · have HR := Lib.hid (show rightM m = false by rw [hr, hs]; rfl)
    clear hr hs
    go_wp2_with fail
    go_ret
    rw [HR.out]
    exact ⟨rfl, hb0⟩
  · rw [hs] at hr
    have HR := Lib.hid hr
    clear hs hr
    go_wp2_with fail
    all_goals
      go_ret
      refine ⟨ret_bool ?_, hb0⟩
      have hr := HR.out
      clear HR c0 c1 c2 c3 c4 c5 c6 c7 c8 c9 c10 c11 c12 hr0 hrl hkl hvl hb0
      rw [hr]
      first
        | (simp_all; done)
        | (rw [Bool.eq_iff_iff]; simp_all; omega)
        | (rw [Bool.eq_iff_iff]; simp; omega)

set_option maxHeartbeats 1000000 in
theorem rRight_other (m : Msg) (hk : m.kind ≠ 1 ∧ m.kind ≠ 2 ∧ m.kind ≠ 3 ∧ m.kind ≠ 4 ∧ m.kind ≠ 5 ∧ m.kind ≠ 6 ∧ m.kind ≠ 7 ∧ m.kind ≠ 8 ∧ m.kind ≠ 9 ∧ m.kind ≠ 10 ∧ m.kind ≠ 11) (hte : stampB m.te = true) (hdi : stampB m.di = true) (hm : m.ok) (a : Option Addr) (n c : Nat) (w : World) (h : RecsAt w a n c m.recs) : Calls Try.prog 32 #[msgV m a n c] w fun e w' => e = .returned (.bool (rightM m)) ∧ Below w.heap.size w w' := by
  obtain ⟨k1, k2, k3, k4, k5, k6, k7, k8, k9, k10, k11⟩ := hk
  have hr : rightM m = false := by unfold rightM; simp [k1, k2, k3, k4, k5, k6, k7, k8, k9, k10, k11]
  have b1 : ((m.kind : Int) == 1) = false := by simp [k1]
  have b2 : ((m.kind : Int) == 2) = false := by simp [k2]
  have b3 : ((m.kind : Int) == 3) = false := by simp [k3]
  have b4 : ((m.kind : Int) == 4) = false := by simp [k4]
  have b5 : ((m.kind : Int) == 5) = false := by simp [k5]
  have b6 : ((m.kind : Int) == 6) = false := by simp [k6]
  have b7 : ((m.kind : Int) == 7) = false := by simp [k7]
  have b8 : ((m.kind : Int) == 8) = false := by simp [k8]
  have b9 : ((m.kind : Int) == 9) = false := by simp [k9]
  have b10 : ((m.kind : Int) == 10) = false := by simp [k10]
  have b11 : ((m.kind : Int) == 11) = false := by simp [k11]
  have b0 : ((m.kind : Int) != 1) = true := by simp [k1]
  clear k1 k2 k3 k4 k5 k6 k7 k8 k9 k10 k11
  have HT := Lib.hid hte
  clear hte
  have HD := Lib.hid hdi
  clear hdi
  have hB := (MsgAt.new w m a n c)
  have hb0 := (Below.refl w.heap.size w).alloc (Nat.le_refl _) (msgObj m a n c)
  unfold msgObj at hB hb0
  have hr0 := h.on hb0
  have hkl := hm.key
  have hvl := hm.val
  have hrl := hm.recs
  have HR := Lib.hid hr
  clear h hm hr
  unfold msgV
  go_enter Try.func32, Try.ntmps32
  go_upto_region 1 with fail
  generalize w.alloc (.cells #[.int .i64 m.kind, .int .u64 m.te, .int .u64 m.di, .int .u64 m.id, .int .u64 m.lsn, .int .u64 m.low, .string ⟨m.key.toArray⟩, .string ⟨m.hi.toArray⟩, .bool m.del, .bool m.found, .string ⟨m.val.toArray⟩, .slice a n c, .int .i64 m.err] 26) = w1 at *
  obtain ⟨c0, c1, c2, c3, c4, c5, c6, c7, c8, c9, c10, c11, c12⟩ := hB.cells
  clear hB
  go_wp2_with fail
  refine (rStamp_any m.te w1).mono ?_
  rw [HT.out]
  rintro e w2 ⟨rfl, rfl⟩
  go_wp2_with fail
  refine (rStamp_any m.di w1).mono ?_
  rw [HD.out]
  rintro e w2 ⟨rfl, rfl⟩
  go_wp2_with fail
  go_ret
  rw [HR.out]
  exact ⟨rfl, hb0⟩

/-- What the document's right answers. -/
def rightR (m : Msg) : Bool := stampB m.te && (m.kind == 1 || stampB m.di) && rightM m
set_option maxHeartbeats 1000000 in
theorem rRight_any (m : Msg) (hm : m.ok) (a : Option Addr) (n c : Nat) (w : World) (h : RecsAt w a n c m.recs) : Calls Try.prog 32 #[msgV m a n c] w fun e w' => e = .returned (.bool (rightR m)) ∧ Below w.heap.size w w' := by
  cases hte : stampB m.te
  · have HR := Lib.hid (show rightR m = false by unfold rightR; rw [hte]; rfl)
    have HT := Lib.hid hte
    clear hte
    have hB := (MsgAt.new w m a n c)
    have hb0 := (Below.refl w.heap.size w).alloc (Nat.le_refl _) (msgObj m a n c)
    unfold msgObj at hB hb0
    unfold msgV
    go_enter Try.func32, Try.ntmps32
    go_upto_region 1 with fail
    generalize w.alloc (.cells #[.int .i64 m.kind, .int .u64 m.te, .int .u64 m.di, .int .u64 m.id, .int .u64 m.lsn, .int .u64 m.low, .string ⟨m.key.toArray⟩, .string ⟨m.hi.toArray⟩, .bool m.del, .bool m.found, .string ⟨m.val.toArray⟩, .slice a n c, .int .i64 m.err] 26) = w1 at *
    obtain ⟨c0, c1, c2, c3, c4, c5, c6, c7, c8, c9, c10, c11, c12⟩ := hB.cells
    clear hB
    go_wp2_with fail
    refine (rStamp_any m.te w1).mono ?_
    rw [HT.out]
    rintro e w2 ⟨rfl, rfl⟩
    go_wp2_with fail
    go_ret
    rw [HR.out]
    exact ⟨rfl, hb0⟩
  by_cases k1 : m.kind = 1
  · have e : rightR m = rightM m := by unfold rightR; rw [hte, k1]; simp
    rw [e]
    exact rRight_1 m k1 hte hm a n c w h
  cases hdi : stampB m.di
  · have HR := Lib.hid (show rightR m = false by unfold rightR; rw [hte, hdi]; simp [k1])
    have HT := Lib.hid hte
    have HD := Lib.hid hdi
    have b0 : ((m.kind : Int) != 1) = true := by simp [k1]
    clear hte hdi k1
    have hB := (MsgAt.new w m a n c)
    have hb0 := (Below.refl w.heap.size w).alloc (Nat.le_refl _) (msgObj m a n c)
    unfold msgObj at hB hb0
    unfold msgV
    go_enter Try.func32, Try.ntmps32
    go_upto_region 1 with fail
    generalize w.alloc (.cells #[.int .i64 m.kind, .int .u64 m.te, .int .u64 m.di, .int .u64 m.id, .int .u64 m.lsn, .int .u64 m.low, .string ⟨m.key.toArray⟩, .string ⟨m.hi.toArray⟩, .bool m.del, .bool m.found, .string ⟨m.val.toArray⟩, .slice a n c, .int .i64 m.err] 26) = w1 at *
    obtain ⟨c0, c1, c2, c3, c4, c5, c6, c7, c8, c9, c10, c11, c12⟩ := hB.cells
    clear hB
    go_wp2_with fail
    refine (rStamp_any m.te w1).mono ?_
    rw [HT.out]
    rintro e w2 ⟨rfl, rfl⟩
    go_wp2_with fail
    refine (rStamp_any m.di w1).mono ?_
    rw [HD.out]
    rintro e w2 ⟨rfl, rfl⟩
    go_wp2_with fail
    go_ret
    rw [HR.out]
    exact ⟨rfl, hb0⟩
  have e : rightR m = rightM m := by unfold rightR; rw [hte, hdi]; simp
  rw [e]
  by_cases k2 : m.kind = 2
  · exact rRight_2 m k2 hte hdi hm a n c w h
  by_cases k3 : m.kind = 3
  · exact rRight_3 m k3 hte hdi hm a n c w h
  by_cases k4 : m.kind = 4
  · exact rRight_4 m k4 hte hdi hm a n c w h
  by_cases k5 : m.kind = 5
  · exact rRight_5 m k5 hte hdi hm a n c w h
  by_cases k6 : m.kind = 6
  · exact rRight_6 m k6 hte hdi hm a n c w h
  by_cases k7 : m.kind = 7
  · exact rRight_7 m k7 hte hdi hm a n c w h
  by_cases k8 : m.kind = 8
  · exact rRight_8 m k8 hte hdi hm a n c w h
  by_cases k9 : m.kind = 9
  · exact rRight_9 m k9 hte hdi hm a n c w h
  by_cases k10 : m.kind = 10
  · exact rRight_10 m k10 hte hdi hm a n c w h
  by_cases k11 : m.kind = 11
  · exact rRight_11 m k11 hte hdi hm a n c w h
  exact rRight_other m ⟨k1, k2, k3, k4, k5, k6, k7, k8, k9, k10, k11⟩ hte hdi hm a n c w h

set_option maxHeartbeats 1000000 in
theorem rCheck_any (m : Msg) (a : Option Addr) (n c : Nat) (w : World) (h : RecsAt w a n c m.recs) (hm : m.ok) :
    Calls Try.prog 11 #[msgV m a n c] w fun e w' => e = .returned (.int .i64 (checkM m)) ∧ Below w.heap.size w w' := by
  have hn := h.max
  have hl := h.len
  have hB := (MsgAt.new w m a n c)
  have hb0 := (Below.refl w.heap.size w).alloc (Nat.le_refl _) (msgObj m a n c)
  have hr0 := h.on hb0
  unfold msgObj at hB hb0 hr0
  have hV : msgV m a n c = .agg #[.int .i64 m.kind, .int .u64 m.te, .int .u64 m.di, .int .u64 m.id, .int .u64 m.lsn, .int .u64 m.low, .string ⟨m.key.toArray⟩, .string ⟨m.hi.toArray⟩, .bool m.del, .bool m.found, .string ⟨m.val.toArray⟩, .slice a n c, .int .i64 m.err] := rfl
  have HL := Lib.hid (fun (w' : World) (hb : Below _ _ w') => hV ▸ rLong_any m a n c w' (hr0.on hb) hm)
  have HR := Lib.hid (fun (w' : World) (hb : Below _ _ w') => hV ▸ rRight_any m hm a n c w' (hr0.on hb))
  have HW := Lib.hid (fun (w' : World) => hV ▸ rWipe_any m a n c w' hl hn)
  clear hV
  unfold msgV
  go_enter Try.func11, Try.ntmps11
  go_upto_region 1 with fail
  generalize w.alloc (.cells #[.int .i64 m.kind, .int .u64 m.te, .int .u64 m.di, .int .u64 m.id, .int .u64 m.lsn, .int .u64 m.low, .string ⟨m.key.toArray⟩, .string ⟨m.hi.toArray⟩, .bool m.del, .bool m.found, .string ⟨m.val.toArray⟩, .slice a n c, .int .i64 m.err] 26) = w1 at *
  obtain ⟨c0, c1, c2, c3, c4, c5, c6, c7, c8, c9, c10, c11, c12⟩ := hB.cells
  go_wp2_with fail
  refine (HL.out w1 (Below.refl _ _)).mono ?_
  rintro e w2 ⟨rfl, hb2⟩
  have hB2 : MsgAt w2 w.heap.size m a n c := Blk.on hB hb2
  have hbb2 := hb0.on hb2
  clear c0 c1 c2 c3 c4 c5 c6 c7 c8 c9 c10 c11 c12
  cases hlm : longM m
  case true =>
    have HC := Lib.hid (show checkM m = 3 by unfold checkM; rw [hlm]; rfl)
    clear hlm
    go_wp2_with fail
    go_ret
    rw [HC.out]
    exact ⟨rfl, hbb2⟩
  have HLM := Lib.hid hlm
  clear hlm
  obtain ⟨c0, c1, c2, c3, c4, c5, c6, c7, c8, c9, c10, c11, c12⟩ := hB2.cells
  go_wp2_with fail
  refine (HR.out w2 hb2).mono ?_
  rintro e w3 ⟨rfl, hb3⟩
  have hB3 : MsgAt w3 w.heap.size m a n c := Blk.on hB2 hb3
  have hbb3 := hbb2.on hb3
  clear c0 c1 c2 c3 c4 c5 c6 c7 c8 c9 c10 c11 c12
  cases hrm : rightR m
  case false =>
    have HC := Lib.hid (show checkM m = 2 by unfold checkM; rw [HLM.out, good_ref]; unfold rightR at hrm; rw [hrm]; rfl)
    clear hrm
    go_wp2_with fail
    go_ret
    rw [HC.out]
    exact ⟨rfl, hbb3⟩
  have HRM := Lib.hid hrm
  clear hrm
  obtain ⟨c0, c1, c2, c3, c4, c5, c6, c7, c8, c9, c10, c11, c12⟩ := hB3.cells
  go_wp2_with fail
  refine (HW.out w3).mono ?_
  rintro e w4 ⟨a4, n4, c4', rfl, hl4, hn4, hb4⟩
  have hz := rZero_any (wipeR m) a4 n4 c4' w4 hl4 hn4
  have HZ := Lib.hid hz
  have hbb4 := hbb3.on hb4
  clear c0 c1 c2 c3 c4 c5 c6 c7 c8 c9 c10 c11 c12 hz
  have HC := Lib.hid (show checkM m = if restM (wipeR m) then 0 else 2 by unfold checkM; rw [HLM.out, good_ref]; have := HRM.out; unfold rightR at this; rw [this]; simp)
  have HTE := Lib.hid (show ((wipeR m).te == 0 && restM (wipeR m)) = restM (wipeR m) by unfold wipeR; simp)
  go_wp2_with fail
  refine HZ.out.mono ?_
  rw [HTE.out]
  rintro e w5 ⟨rfl, hb5⟩
  have hbb5 := hbb4.on hb5
  cases hz : restM (wipeR m)
  · have HC2 := Lib.hid (show checkM m = 2 by rw [HC.out, hz]; rfl)
    clear hz
    go_wp2_with fail
    go_ret
    rw [HC2.out]
    exact ⟨rfl, hbb5⟩
  · have HC2 := Lib.hid (show checkM m = 0 by rw [HC.out, hz]; rfl)
    clear hz
    go_wp2_with fail
    go_ret
    rw [HC2.out]
    exact ⟨rfl, hbb5⟩
end Go.Proofs.Ytnijijcbdajodaa
