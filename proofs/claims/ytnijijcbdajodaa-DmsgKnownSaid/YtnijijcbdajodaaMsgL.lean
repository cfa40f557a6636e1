/-
  The walks of package dmsg's long and rest. Condition: sizes that a machine has.
-/
import Derived.Test.YtnijijcbdajodaaMsgT
namespace Go.Proofs.Ytnijijcbdajodaa
set_option linter.unusedVariables false
set_option linter.unusedSimpArgs false
open Go.RowKit

set_option maxRecDepth 100000 in
set_option maxHeartbeats 2000000 in
theorem long_any (m : Msg) (a : Option Addr) (n c : Nat) (w : World) (h : RecsAt w a n c m.recs) (hm : m.ok) :
    Calls Try.prog 27 #[msgV m a n c] w fun e w' => e = .returned (.bool (longM m)) ∧ Below w.heap.size w w' := by
  have hmf : ∀ (fn : Fn) (first cap : Array Value) (w : World), (Instr.makeFunc fn first cap).run Try.prog w = .ok (.func fn first cap) w := fun _ _ _ _ => rfl
  have hlong : longM m = (tooLong m.key m.val || tooLong m.hi [] || decide (500 < m.recs.length) || anyLong m.recs) := rfl
  have hlen := h.len
  have hmax := h.max
  unfold msgV
  go_enter Try.func27, Try.ntmps27
  go_upto_region 2 with fail
  have hB := (MsgAt.new w m a n c)
  have hb0 := (Below.refl w.heap.size w).alloc (Nat.le_refl _) (msgObj m a n c)
  unfold msgObj at hB hb0
  have hB1 : MsgAt ((w.alloc (.cells #[.int .i64 m.kind, .int .u64 m.te, .int .u64 m.di, .int .u64 m.id, .int .u64 m.lsn, .int .u64 m.low, .string ⟨m.key.toArray⟩, .string ⟨m.hi.toArray⟩, .bool m.del, .bool m.found, .string ⟨m.val.toArray⟩, .slice a n c, .int .i64 m.err] 26)).alloc (.cells #[.func (.func 46) #[] #[]] 78)) w.heap.size m a n c := Blk.alloc hB _
  have hC1 : AskAt ((w.alloc (.cells #[.int .i64 m.kind, .int .u64 m.te, .int .u64 m.di, .int .u64 m.id, .int .u64 m.lsn, .int .u64 m.low, .string ⟨m.key.toArray⟩, .string ⟨m.hi.toArray⟩, .bool m.del, .bool m.found, .string ⟨m.val.toArray⟩, .slice a n c, .int .i64 m.err] 26)).alloc (.cells #[.func (.func 46) #[] #[]] 78)) (w.heap.size + 1) := by
    have := Blk.new (w.alloc (.cells #[.int .i64 m.kind, .int .u64 m.te, .int .u64 m.di, .int .u64 m.id, .int .u64 m.lsn, .int .u64 m.low, .string ⟨m.key.toArray⟩, .string ⟨m.hi.toArray⟩, .bool m.del, .bool m.found, .string ⟨m.val.toArray⟩, .slice a n c, .int .i64 m.err] 26)) [.func (.func 46) #[] #[]] 78
    unfold AskAt
    simpa using this
  have hb1 := hb0.alloc (by simp) (.cells #[.func (.func 46) #[] #[]] 78)
  have hr1 := h.on hb1
  generalize (w.alloc (.cells #[.int .i64 m.kind, .int .u64 m.te, .int .u64 m.di, .int .u64 m.id, .int .u64 m.lsn, .int .u64 m.low, .string ⟨m.key.toArray⟩, .string ⟨m.hi.toArray⟩, .bool m.del, .bool m.found, .string ⟨m.val.toArray⟩, .slice a n c, .int .i64 m.err] 26)).alloc (.cells #[.func (.func 46) #[] #[]] 78) = w1 at *
  clear hB hb0 h
  generalize w.heap.size + 1 = C at *
  obtain ⟨c0, c1, c2, c3, c4, c5, c6, c7, c8, c9, c10, c11, c12⟩ := hB1.cells
  clear c0 c1 c2 c3 c4 c5 c8 c9 c12
  have f0 : w1.cell? ⟨C, 0, none⟩ = some (.func (.func 46) #[] #[]) := by unfold AskAt at hC1; rw [hC1.cell]; rfl
  have HL := Lib.hid hlen
  have hkl := hm.key
  have hvl := hm.val
  have hhl := hm.hi
  clear hlen
  go_wp2_with fail
  refine (tooLong_any m.key m.val w1 hkl hvl).mono ?_
  rintro e w2 ⟨rfl, rfl⟩
  cases h1 : tooLong m.key m.val
  · rw [h1] at hlong
    clear h1
    go_wp2_with fail
    refine (show Calls Try.prog 46 #[.string ⟨m.hi.toArray⟩, .string ⟨#[]⟩] w1 fun e w' => e = .returned (.bool (tooLong m.hi [])) ∧ w1 = w' from tooLong_any m.hi [] w1 hhl (by simp)).mono ?_
    rintro e w2 ⟨rfl, rfl⟩
    cases h2 : tooLong m.hi []
    · rw [h2] at hlong
      clear h2
      by_cases h3 : 500 < n
      · have HH := Lib.hid (show longM m = true by rw [hlong, HL.out]; simp [h3])
        have hd : decide ((n : Int) > 500) = true := by simp; omega
        clear hlong
        go_wp2_with fail
        go_ret
        rw [HH.out]
        exact ⟨rfl, hb1⟩
      · have hd : decide ((n : Int) > 500) = false := by simp; omega
        have HH := Lib.hid (show longM m = anyLong m.recs by rw [hlong, HL.out]; simp [h3])
        clear hlong
        go_wp2_with fail
        refine (contains_any C a n c m.recs w1 hr1 hm.recs hC1).mono ?_
        rintro e w2 ⟨rfl, hb2⟩
        go_wp2_with fail
        go_ret
        rw [HH.out]
        exact ⟨rfl, hb1.on hb2⟩
    · have HH := Lib.hid (show longM m = true by rw [hlong, h2]; simp)
      clear hlong h2
      go_wp2_with fail
      go_ret
      rw [HH.out]
      exact ⟨rfl, hb1⟩
  · have HH := Lib.hid (show longM m = true by rw [hlong, h1]; simp)
    clear hlong h1
    go_wp2_with fail
    go_ret
    rw [HH.out]
    exact ⟨rfl, hb1⟩

theorem isEmpty_str (l : List UInt8) : (l.isEmpty = true ↔ l = []) := List.isEmpty_iff
set_option maxRecDepth 100000 in
set_option maxHeartbeats 4000000 in
theorem rest_any (m : Msg) (a : Option Addr) (n c : Nat) (w : World) (hn : m.recs.length = n) (hx : n ≤ 9223372036854775807) :
    Calls Try.prog 30 #[msgV m a n c] w fun e w' => e = .returned (.bool (restM m)) ∧ Below w.heap.size w w' := by
  have hB := (MsgAt.new w m a n c)
  have hb0 := (Below.refl w.heap.size w).alloc (Nat.le_refl _) (msgObj m a n c)
  unfold msgObj at hB hb0
  obtain ⟨kind, te, di, id, lsn, low, key, hi, del, found, val, recs, err⟩ := m
  unfold msgV
  simp only at *
  go_enter Try.func30, Try.ntmps30
  go_upto_region 1 with fail
  generalize w.alloc (.cells #[.int .i64 kind, .int .u64 te, .int .u64 di, .int .u64 id, .int .u64 lsn, .int .u64 low, .string ⟨key.toArray⟩, .string ⟨hi.toArray⟩, .bool del, .bool found, .string ⟨val.toArray⟩, .slice a n c, .int .i64 err] 26) = w1 at *
  obtain ⟨c0, c1, c2, c3, c4, c5, c6, c7, c8, c9, c10, c11, c12⟩ := hB.cells
  simp only at *
  have hrm : restM ⟨kind, te, di, id, lsn, low, key, hi, del, found, val, recs, err⟩ = (di == 0 && id == 0 && lsn == 0 && low == 0 && key.isEmpty && hi.isEmpty && !del && !found && val.isEmpty && recs.isEmpty && err == 0) := rfl
  have hre : recs.isEmpty = (n == 0) := by
    rw [← hn]; cases recs <;> simp
  rw [hre] at hrm
  have HR := Lib.hid hrm
  have HN := Lib.hid hn
  clear hrm hn hre hB
  go_wp2_with fail
  all_goals
    go_ret
    clear c0 c1 c2 c3 c4 c5 c6 c7 c8 c9 c10 c11 c12
    refine ⟨ret_bool ?_, hb0⟩
    have hr := HR.out
    clear HR HN hb0
    rw [hr]
    simp_all
end Go.Proofs.Ytnijijcbdajodaa
