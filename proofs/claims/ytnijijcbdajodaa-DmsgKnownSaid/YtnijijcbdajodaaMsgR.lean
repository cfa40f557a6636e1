/-
  The walks of the functions of package dmsg's rules that ask whether a message is right. Condition: sizes that a machine has.
-/
import Derived.Test.YtnijijcbdajodaaMsgV
namespace Go.Proofs.Ytnijijcbdajodaa
set_option linter.unusedVariables false
set_option linter.unusedSimpArgs false
open Go.RowKit

theorem may_lit (k v : List UInt8) (d : Bool) (w : World) (hk : k.length ≤ 9223372036854775807) (hv : v.length ≤ 9223372036854775807) :
    Calls Try.prog 51 #[.agg #[.string ⟨k.toArray⟩, .int .u64 0, .bool d, .string ⟨v.toArray⟩]] w fun e w' => e = .returned (.int .i64 (may ⟨k, 0, d, v⟩)) ∧ Below w.heap.size w w' :=
  may_any ⟨k, 0, d, v⟩ w ⟨hk, hv, by show 0 < U64; decide⟩

theorem right_none (m : Msg) (hk : m.kind = 1 ∨ m.kind = 7) (a : Option Addr) (n c : Nat) (w : World) : Calls Try.prog 83 #[msgV m a n c] w fun e w' => e = .returned (.bool (rightM m)) ∧ Below w.heap.size w w' := by
  have HR := Lib.hid (show rightM m = true by
    unfold rightM
    rcases hk with hk | hk <;> simp [hk])
  have hb0 := (Below.refl w.heap.size w).alloc (Nat.le_refl _) (msgObj m a n c)
  unfold msgObj at hb0
  clear hk
  unfold msgV
  go_enter Try.func83, Try.ntmps83
  go_wp2_with fail
  go_ret
  rw [HR.out]
  exact ⟨rfl, hb0⟩

set_option maxHeartbeats 1000000 in
theorem right_2 (m : Msg) (hk : m.kind = 2) (hm : m.ok) (a : Option Addr) (n c : Nat) (w : World) (h : RecsAt w a n c m.recs) : Calls Try.prog 50 #[msgV m a n c] w fun e w' => e = .returned (.bool (rightM m)) ∧ Below w.heap.size w w' := by
  have hr : rightM m = (stampB m.lsn && may ⟨m.key, 0, m.del, m.val⟩ == 0) := by unfold rightM; simp [hk]
  have hB := (MsgAt.new w m a n c)
  have hb0 := (Below.refl w.heap.size w).alloc (Nat.le_refl _) (msgObj m a n c)
  unfold msgObj at hB hb0
  have hr0 := h.on hb0
  have hkl := hm.key
  have hvl := hm.val
  have hrl := hm.recs
  clear hk h hm
  unfold msgV
  go_enter Try.func50, Try.ntmps50
  go_upto_region 1 with fail
  generalize w.alloc (.cells #[.int .i64 m.kind, .int .u64 m.te, .int .u64 m.di, .int .u64 m.id, .int .u64 m.lsn, .int .u64 m.low, .string ⟨m.key.toArray⟩, .string ⟨m.hi.toArray⟩, .bool m.del, .bool m.found, .string ⟨m.val.toArray⟩, .slice a n c, .int .i64 m.err] 26) = w1 at *
  obtain ⟨c0, c1, c2, c3, c4, c5, c6, c7, c8, c9, c10, c11, c12⟩ := hB.cells
  clear hB c0 c1 c2
  go_wp2_with fail
  refine (mstamp_any m.lsn w1).mono ?_
  rintro e w2 ⟨rfl, rfl⟩
  cases hs : stampB m.lsn
  · have HR := Lib.hid (show rightM m = false by rw [hr, hs]; rfl)
    clear hr hs
    go_wp2_with fail
    go_ret
    rw [HR.out]
    exact ⟨rfl, hb0⟩
  · rw [hs] at hr
    clear hs
    go_wp2_with fail
    refine (may_lit m.key m.val m.del w1 hkl hvl).mono ?_
    rintro e w2 ⟨rfl, hb2⟩
    have HR := Lib.hid hr
    clear hr
    go_wp2_with fail
    go_ret
    refine ⟨ret_bool ?_, hb0.on hb2⟩
    rw [HR.out, Bool.true_and, Bool.eq_iff_iff]
    simp
    try omega

set_option maxHeartbeats 1000000 in
theorem right_3 (m : Msg) (hk : m.kind = 3) (hm : m.ok) (a : Option Addr) (n c : Nat) (w : World) (h : RecsAt w a n c m.recs) : Calls Try.prog 53 #[msgV m a n c] w fun e w' => e = .returned (.bool (rightM m)) ∧ Below w.heap.size w w' := by
  have hr : rightM m = (decide (m.lsn ≤ 1099511627776) && decide (m.low ≤ m.lsn)) := by unfold rightM; simp [hk]
  have hB := (MsgAt.new w m a n c)
  have hb0 := (Below.refl w.heap.size w).alloc (Nat.le_refl _) (msgObj m a n c)
  unfold msgObj at hB hb0
  have hr0 := h.on hb0
  have hkl := hm.key
  have hvl := hm.val
  have hrl := hm.recs
  clear hk h hm
  unfold msgV
  go_enter Try.func53, Try.ntmps53
  go_upto_region 1 with fail
  generalize w.alloc (.cells #[.int .i64 m.kind, .int .u64 m.te, .int .u64 m.di, .int .u64 m.id, .int .u64 m.lsn, .int .u64 m.low, .string ⟨m.key.toArray⟩, .string ⟨m.hi.toArray⟩, .bool m.del, .bool m.found, .string ⟨m.val.toArray⟩, .slice a n c, .int .i64 m.err] 26) = w1 at *
  obtain ⟨c0, c1, c2, c3, c4, c5, c6, c7, c8, c9, c10, c11, c12⟩ := hB.cells
  clear hB c0 c1 c2
  have HR := Lib.hid hr
  clear hr
  go_wp2_with fail
  all_goals
    go_ret
    refine ⟨ret_bool ?_, hb0⟩
    have hr := HR.out
    clear HR c3 c4 c5 c6 c7 c8 c9 c10 c11 c12 hr0 hrl hkl hvl hb0
    rw [hr]
    first
      | (simp_all; done)
      | (rw [Bool.eq_iff_iff]; simp_all; omega)
      | (rw [Bool.eq_iff_iff]; simp; omega)

set_option maxHeartbeats 1000000 in
theorem right_4 (m : Msg) (hk : m.kind = 4) (hm : m.ok) (a : Option Addr) (n c : Nat) (w : World) (h : RecsAt w a n c m.recs) : Calls Try.prog 55 #[msgV m a n c] w fun e w' => e = .returned (.bool (rightM m)) ∧ Below w.heap.size w w' := by
  have hr : rightM m = (stampB m.id && !m.key.isEmpty) := by unfold rightM; simp [hk]
  have hB := (MsgAt.new w m a n c)
  have hb0 := (Below.refl w.heap.size w).alloc (Nat.le_refl _) (msgObj m a n c)
  unfold msgObj at hB hb0
  have hr0 := h.on hb0
  have hkl := hm.key
  have hvl := hm.val
  have hrl := hm.recs
  clear hk h hm
  unfold msgV
  go_enter Try.func55, Try.ntmps55
  go_upto_region 1 with fail
  generalize w.alloc (.cells #[.int .i64 m.kind, .int .u64 m.te, .int .u64 m.di, .int .u64 m.id, .int .u64 m.lsn, .int .u64 m.low, .string ⟨m.key.toArray⟩, .string ⟨m.hi.toArray⟩, .bool m.del, .bool m.found, .string ⟨m.val.toArray⟩, .slice a n c, .int .i64 m.err] 26) = w1 at *
  obtain ⟨c0, c1, c2, c3, c4, c5, c6, c7, c8, c9, c10, c11, c12⟩ := hB.cells
  clear hB c0 c1 c2
  go_wp2_with fail
  refine (mstamp_any m.id w1).mono ?_
  rintro e w2 ⟨rfl, rfl⟩
  cases hs : stampB m.id
  · have HR := Lib.hid (show rightM m = false by rw [hr, hs]; rfl)
    clear hr hs
    go_wp2_with fail
    go_ret
    rw [HR.out]
    exact ⟨rfl, hb0⟩
  · rw [hs] at hr
    clear hs
    have HR := Lib.hid hr
    clear hr
    go_wp2_with fail
    all_goals
      go_ret
      refine ⟨ret_bool ?_, hb0⟩
      have hr := HR.out
      clear HR c3 c4 c5 c6 c7 c8 c9 c10 c11 c12 hr0 hrl hkl hvl hb0
      rw [hr]
      first
        | (simp_all; done)
        | (rw [Bool.eq_iff_iff]; simp_all; omega)
        | (rw [Bool.eq_iff_iff]; simp; omega)

set_option maxHeartbeats 1000000 in
theorem right_5 (m : Msg) (hk : m.kind = 5) (hm : m.ok) (a : Option Addr) (n c : Nat) (w : World) (h : RecsAt w a n c m.recs) : Calls Try.prog 57 #[msgV m a n c] w fun e w' => e = .returned (.bool (rightM m)) ∧ Below w.heap.size w w' := by
  have hr : rightM m = (stampB m.id) := by unfold rightM; simp [hk]
  have hB := (MsgAt.new w m a n c)
  have hb0 := (Below.refl w.heap.size w).alloc (Nat.le_refl _) (msgObj m a n c)
  unfold msgObj at hB hb0
  have hr0 := h.on hb0
  have hkl := hm.key
  have hvl := hm.val
  have hrl := hm.recs
  clear hk h hm
  unfold msgV
  go_enter Try.func57, Try.ntmps57
  go_upto_region 1 with fail
  generalize w.alloc (.cells #[.int .i64 m.kind, .int .u64 m.te, .int .u64 m.di, .int .u64 m.id, .int .u64 m.lsn, .int .u64 m.low, .string ⟨m.key.toArray⟩, .string ⟨m.hi.toArray⟩, .bool m.del, .bool m.found, .string ⟨m.val.toArray⟩, .slice a n c, .int .i64 m.err] 26) = w1 at *
  obtain ⟨c0, c1, c2, c3, c4, c5, c6, c7, c8, c9, c10, c11, c12⟩ := hB.cells
  clear hB c0 c1 c2
  go_wp2_with fail
  refine (mstamp_any m.id w1).mono ?_
  rintro e w2 ⟨rfl, rfl⟩
  have HR := Lib.hid hr
  clear hr
  go_wp2_with fail
  go_ret
  rw [HR.out]
  exact ⟨rfl, hb0⟩

set_option maxHeartbeats 1000000 in
theorem right_6 (m : Msg) (hk : m.kind = 6) (hm : m.ok) (a : Option Addr) (n c : Nat) (w : World) (h : RecsAt w a n c m.recs) : Calls Try.prog 59 #[msgV m a n c] w fun e w' => e = .returned (.bool (rightM m)) ∧ Below w.heap.size w w' := by
  have hr : rightM m = (stampB m.id && decide (m.lsn ≤ 1099511627776)) := by unfold rightM; simp [hk]
  have hB := (MsgAt.new w m a n c)
  have hb0 := (Below.refl w.heap.size w).alloc (Nat.le_refl _) (msgObj m a n c)
  unfold msgObj at hB hb0
  have hr0 := h.on hb0
  have hkl := hm.key
  have hvl := hm.val
  have hrl := hm.recs
  clear hk h hm
  unfold msgV
  go_enter Try.func59, Try.ntmps59
  go_upto_region 1 with fail
  generalize w.alloc (.cells #[.int .i64 m.kind, .int .u64 m.te, .int .u64 m.di, .int .u64 m.id, .int .u64 m.lsn, .int .u64 m.low, .string ⟨m.key.toArray⟩, .string ⟨m.hi.toArray⟩, .bool m.del, .bool m.found, .string ⟨m.val.toArray⟩, .slice a n c, .int .i64 m.err] 26) = w1 at *
  obtain ⟨c0, c1, c2, c3, c4, c5, c6, c7, c8, c9, c10, c11, c12⟩ := hB.cells
  clear hB c0 c1 c2
  go_wp2_with fail
  refine (mstamp_any m.id w1).mono ?_
  rintro e w2 ⟨rfl, rfl⟩
  cases hs : stampB m.id
  · have HR := Lib.hid (show rightM m = false by rw [hr, hs]; rfl)
    clear hr hs
    go_wp2_with fail
    go_ret
    rw [HR.out]
    exact ⟨rfl, hb0⟩
  · rw [hs] at hr
    clear hs
    have HR := Lib.hid hr
    clear hr
    go_wp2_with fail
    all_goals
      go_ret
      refine ⟨ret_bool ?_, hb0⟩
      have hr := HR.out
      clear HR c3 c4 c5 c6 c7 c8 c9 c10 c11 c12 hr0 hrl hkl hvl hb0
      rw [hr]
      first
        | (simp_all; done)
        | (rw [Bool.eq_iff_iff]; simp_all; omega)
        | (rw [Bool.eq_iff_iff]; simp; omega)

set_option maxHeartbeats 1000000 in
theorem right_8 (m : Msg) (hk : m.kind = 8) (hm : m.ok) (a : Option Addr) (n c : Nat) (w : World) (h : RecsAt w a n c m.recs) : Calls Try.prog 61 #[msgV m a n c] w fun e w' => e = .returned (.bool (rightM m)) ∧ Below w.heap.size w w' := by
  have hr : rightM m = (stampB m.lsn) := by unfold rightM; simp [hk]
  have hB := (MsgAt.new w m a n c)
  have hb0 := (Below.refl w.heap.size w).alloc (Nat.le_refl _) (msgObj m a n c)
  unfold msgObj at hB hb0
  have hr0 := h.on hb0
  have hkl := hm.key
  have hvl := hm.val
  have hrl := hm.recs
  clear hk h hm
  unfold msgV
  go_enter Try.func61, Try.ntmps61
  go_upto_region 1 with fail
  generalize w.alloc (.cells #[.int .i64 m.kind, .int .u64 m.te, .int .u64 m.di, .int .u64 m.id, .int .u64 m.lsn, .int .u64 m.low, .string ⟨m.key.toArray⟩, .string ⟨m.hi.toArray⟩, .bool m.del, .bool m.found, .string ⟨m.val.toArray⟩, .slice a n c, .int .i64 m.err] 26) = w1 at *
  obtain ⟨c0, c1, c2, c3, c4, c5, c6, c7, c8, c9, c10, c11, c12⟩ := hB.cells
  clear hB c0 c1 c2
  go_wp2_with fail
  refine (mstamp_any m.lsn w1).mono ?_
  rintro e w2 ⟨rfl, rfl⟩
  have HR := Lib.hid hr
  clear hr
  go_wp2_with fail
  go_ret
  rw [HR.out]
  exact ⟨rfl, hb0⟩

set_option maxHeartbeats 1000000 in
theorem right_9 (m : Msg) (hk : m.kind = 9) (hm : m.ok) (a : Option Addr) (n c : Nat) (w : World) (h : RecsAt w a n c m.recs) : Calls Try.prog 63 #[msgV m a n c] w fun e w' => e = .returned (.bool (rightM m)) ∧ Below w.heap.size w w' := by
  have hr : rightM m = (stampB m.id && (m.found || m.val.isEmpty)) := by unfold rightM; simp [hk]
  have hB := (MsgAt.new w m a n c)
  have hb0 := (Below.refl w.heap.size w).alloc (Nat.le_refl _) (msgObj m a n c)
  unfold msgObj at hB hb0
  have hr0 := h.on hb0
  have hkl := hm.key
  have hvl := hm.val
  have hrl := hm.recs
  clear hk h hm
  unfold msgV
  go_enter Try.func63, Try.ntmps63
  go_upto_region 1 with fail
  generalize w.alloc (.cells #[.int .i64 m.kind, .int .u64 m.te, .int .u64 m.di, .int .u64 m.id, .int .u64 m.lsn, .int .u64 m.low, .string ⟨m.key.toArray⟩, .string ⟨m.hi.toArray⟩, .bool m.del, .bool m.found, .string ⟨m.val.toArray⟩, .slice a n c, .int .i64 m.err] 26) = w1 at *
  obtain ⟨c0, c1, c2, c3, c4, c5, c6, c7, c8, c9, c10, c11, c12⟩ := hB.cells
  clear hB c0 c1 c2
  go_wp2_with fail
  refine (mstamp_any m.id w1).mono ?_
  rintro e w2 ⟨rfl, rfl⟩
  cases hs : stampB m.id
  · have HR := Lib.hid (show rightM m = false by rw [hr, hs]; rfl)
    clear hr hs
    go_wp2_with fail
    go_ret
    rw [HR.out]
    exact ⟨rfl, hb0⟩
  · rw [hs] at hr
    clear hs
    have HR := Lib.hid hr
    clear hr
    go_wp2_with fail
    all_goals
      go_ret
      refine ⟨ret_bool ?_, hb0⟩
      have hr := HR.out
      clear HR c3 c4 c5 c6 c7 c8 c9 c10 c11 c12 hr0 hrl hkl hvl hb0
      rw [hr]
      first
        | (simp_all; done)
        | (rw [Bool.eq_iff_iff]; simp_all; omega)
        | (rw [Bool.eq_iff_iff]; simp; omega)

set_option maxHeartbeats 1000000 in
theorem right_10 (m : Msg) (hk : m.kind = 10) (hm : m.ok) (a : Option Addr) (n c : Nat) (w : World) (h : RecsAt w a n c m.recs) : Calls Try.prog 65 #[msgV m a n c] w fun e w' => e = .returned (.bool (rightM m)) ∧ Below w.heap.size w w' := by
  have hr : rightM m = (stampB m.id && valuesM m.recs) := by unfold rightM; simp [hk]
  have hB := (MsgAt.new w m a n c)
  have hb0 := (Below.refl w.heap.size w).alloc (Nat.le_refl _) (msgObj m a n c)
  unfold msgObj at hB hb0
  have hr0 := h.on hb0
  have hkl := hm.key
  have hvl := hm.val
  have hrl := hm.recs
  clear hk h hm
  unfold msgV
  go_enter Try.func65, Try.ntmps65
  go_upto_region 1 with fail
  generalize w.alloc (.cells #[.int .i64 m.kind, .int .u64 m.te, .int .u64 m.di, .int .u64 m.id, .int .u64 m.lsn, .int .u64 m.low, .string ⟨m.key.toArray⟩, .string ⟨m.hi.toArray⟩, .bool m.del, .bool m.found, .string ⟨m.val.toArray⟩, .slice a n c, .int .i64 m.err] 26) = w1 at *
  obtain ⟨c0, c1, c2, c3, c4, c5, c6, c7, c8, c9, c10, c11, c12⟩ := hB.cells
  clear hB c0 c1 c2
  go_wp2_with fail
  refine (mstamp_any m.id w1).mono ?_
  rintro e w2 ⟨rfl, rfl⟩
  cases hs : stampB m.id
  · have HR := Lib.hid (show rightM m = false by rw [hr, hs]; rfl)
    clear hr hs
    go_wp2_with fail
    go_ret
    rw [HR.out]
    exact ⟨rfl, hb0⟩
  · rw [hs] at hr
    clear hs
    go_wp2_with fail
    refine (values_any a n c m.recs w1 hr0 hrl).mono ?_
    rintro e w2 ⟨rfl, hb2⟩
    have HR := Lib.hid hr
    clear hr
    go_wp2_with fail
    go_ret
    refine ⟨ret_bool ?_, hb0.on hb2⟩
    rw [HR.out, Bool.true_and]

set_option maxHeartbeats 1000000 in
theorem right_11 (m : Msg) (hk : m.kind = 11) (hm : m.ok) (a : Option Addr) (n c : Nat) (w : World) (h : RecsAt w a n c m.recs) : Calls Try.prog 68 #[msgV m a n c] w fun e w' => e = .returned (.bool (rightM m)) ∧ Below w.heap.size w w' := by
  have hr : rightM m = (stampB m.id && decide (m.lsn ≤ 1099511627776) && (m.err == 0 || m.err == 7)) := by unfold rightM; simp [hk]
  have hB := (MsgAt.new w m a n c)
  have hb0 := (Below.refl w.heap.size w).alloc (Nat.le_refl _) (msgObj m a n c)
  unfold msgObj at hB hb0
  have hr0 := h.on hb0
  have hkl := hm.key
  have hvl := hm.val
  have hrl := hm.recs
  clear hk h hm
  unfold msgV
  go_enter Try.func68, Try.ntmps68
  go_upto_region 1 with fail
  generalize w.alloc (.cells #[.int .i64 m.kind, .int .u64 m.te, .int .u64 m.di, .int .u64 m.id, .int .u64 m.lsn, .int .u64 m.low, .string ⟨m.key.toArray⟩, .string ⟨m.hi.toArray⟩, .bool m.del, .bool m.found, .string ⟨m.val.toArray⟩, .slice a n c, .int .i64 m.err] 26) = w1 at *
  obtain ⟨c0, c1, c2, c3, c4, c5, c6, c7, c8, c9, c10, c11, c12⟩ := hB.cells
  clear hB c0 c1 c2
  go_wp2_with fail
  refine (mstamp_any m.id w1).mono ?_
  rintro e w2 ⟨rfl, rfl⟩
  cases hs : stampB m.id
  · have HR := Lib.hid (show rightM m = false by rw [hr, hs]; rfl)
    clear hr hs
    go_wp2_with fail
    go_ret
    rw [HR.out]
    exact ⟨rfl, hb0⟩
  · rw [hs] at hr
    clear hs
    have HR := Lib.hid hr
    clear hr
    go_wp2_with fail
    all_goals
      go_ret
      refine ⟨ret_bool ?_, hb0⟩
      have hr := HR.out
      clear HR c3 c4 c5 c6 c7 c8 c9 c10 c11 c12 hr0 hrl hkl hvl hb0
      rw [hr]
      first
        | (simp_all; done)
        | (rw [Bool.eq_iff_iff]; simp_all; omega)
        | (rw [Bool.eq_iff_iff]; simp; omega)

end Go.Proofs.Ytnijijcbdajodaa
