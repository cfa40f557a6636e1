/-
  The walks of the document's long, zero, wipe, right and Check of layer 14. Condition: sizes that a machine has.
-/
import Derived.Test.YtnijijcbdajodaaRef14V
namespace Go.Proofs.Ytnijijcbdajodaa
set_option linter.unusedVariables false
set_option linter.unusedSimpArgs false
open Go.RowKit

/-- The wiped message of the document. -/
def wipeR (m : Msg) : Msg := { wipeM (if m.kind = 1 then m else { m with di := 0 }) with te := 0 }
theorem good_ref (m : Msg) : goodM m = (stampB m.te && (m.kind == 1 || stampB m.di) && rightM m && restM (wipeR m)) := by
  unfold goodM wipeR restM
  rfl

set_option maxRecDepth 100000 in
set_option maxHeartbeats 2000000 in
theorem rLong_any (m : Msg) (a : Option Addr) (n c : Nat) (w : World) (h : RecsAt w a n c m.recs) (hm : m.ok) :
    Calls Try.prog 31 #[msgV m a n c] w fun e w' => e = .returned (.bool (longM m)) ∧ Below w.heap.size w w' := by
  have hlong : longM m = (tooLong m.key m.val || tooLong m.hi [] || decide (500 < m.recs.length) || m.recs.any fun r => tooLong r.key r.val) := rfl
  have hlen := h.len
  have hmax := h.max
  have hB := MsgAt.new w m a n c
  have hb0 := (Below.refl w.heap.size w).alloc (Nat.le_refl _) (msgObj m a n c)
  have hr0 := h.on hb0
  unfold msgObj at hB hb0 hr0
  unfold msgV
  go_enter Try.func31, Try.ntmps31
  go_upto_region 1 with fail
  generalize w.alloc (.cells #[.int .i64 m.kind, .int .u64 m.te, .int .u64 m.di, .int .u64 m.id, .int .u64 m.lsn, .int .u64 m.low, .string ⟨m.key.toArray⟩, .string ⟨m.hi.toArray⟩, .bool m.del, .bool m.found, .string ⟨m.val.toArray⟩, .slice a n c, .int .i64 m.err] 26) = w1 at *
  have hkl := hm.key
  have hvl := hm.val
  have hhl := hm.hi
  rw [hlen] at hlong
  have HL := Lib.hid hlen
  clear hlen h
  obtain ⟨c0, c1, c2, c3, c4, c5, c6, c7, c8, c9, c10, c11, c12⟩ := hB.cells
  clear c0 c1 c2 c3 c4 c5 c8 c9 c12
  by_cases h1 : 16 < m.key.length
  · have HH := Lib.hid (show longM m = true by rw [hlong]; simp [tooLong, h1])
    have hd : decide ((m.key.length : Int) > 16) = true := by simp; omega
    clear hlong
    go_wp2_with fail
    go_ret
    rw [HH.out]
    exact ⟨rfl, hb0⟩
  have hd1 : decide ((m.key.length : Int) > 16) = false := by simp; omega
  by_cases h2 : 16 < m.hi.length
  · have HH := Lib.hid (show longM m = true by rw [hlong]; simp [tooLong, h2])
    have hd : decide ((m.hi.length : Int) > 16) = true := by simp; omega
    clear hlong
    go_wp2_with fail
    go_ret
    rw [HH.out]
    exact ⟨rfl, hb0⟩
  have hd2 : decide ((m.hi.length : Int) > 16) = false := by simp; omega
  by_cases h3 : 24 < m.val.length
  · have HH := Lib.hid (show longM m = true by rw [hlong]; simp [tooLong, h3])
    have hd : decide ((m.val.length : Int) > 24) = true := by simp; omega
    clear hlong
    go_wp2_with fail
    go_ret
    rw [HH.out]
    exact ⟨rfl, hb0⟩
  have hd3 : decide ((m.val.length : Int) > 24) = false := by simp; omega
  by_cases h4 : 500 < n
  · have HH := Lib.hid (show longM m = true by rw [hlong]; simp [h4])
    have hd : decide ((n : Int) > 500) = true := by simp; omega
    clear hlong
    go_wp2_with fail
    go_ret
    rw [HH.out]
    exact ⟨rfl, hb0⟩
  have hd4 : decide ((n : Int) > 500) = false := by simp; omega
  have HA := Lib.hid (show longM m = m.recs.any fun r => tooLong r.key r.val by rw [hlong]; simp [tooLong, h1, h2, h3, h4])
  have hro := hm.recs
  clear hlong hm
  go_wp2_with fail
  clear c6 c7 c10 hd1 hd2 hd3 hd4
  go_loopw [3] (fun s3 wr => ∃ i : Nat, s3 = .int .i64 i ∧ i ≤ n ∧ Below w1.heap.size w1 wr ∧ (m.recs.any fun r => tooLong r.key r.val) = (m.recs.drop i).any fun r => tooLong r.key r.val) (fun s3 _ => n - (intOf s3).toNat)
  case atStart => exact ⟨0, rfl, by omega, Below.refl _ _, rfl⟩
  case round =>
    obtain ⟨i, rfl, hi, hbr, hany⟩ := hrel
    have hBr : MsgAt wr w.heap.size m a n c := Blk.on hB hbr
    clear c11
    have c11 := hBr.cells.2.2.2.2.2.2.2.2.2.2.2.1
    by_cases hlt : i < n
    · obtain ⟨x, g, o, hx, hmx, rfl, d0, d1, d2, d3⟩ := hr0.row hbr hlt
      have hxo := hro x hmx
      have hxk := hxo.key
      have hxv := hxo.val
      have hdrop := val_drop hx
      rw [hdrop, List.any_cons] at hany
      clear hx hmx hdrop hBr
      by_cases h5 : 16 < x.key.length
      · have HH := Lib.hid (show longM m = true by rw [HA.out, hany]; simp [tooLong, h5])
        have hd : decide ((x.key.length : Int) > 16) = true := by simp; omega
        clear hany
        go_wp2_with fail
        go_ret
        rw [HH.out]
        exact ⟨rfl, hb0.on hbr⟩
      have hd5 : decide ((x.key.length : Int) > 16) = false := by simp; omega
      by_cases h6 : 24 < x.val.length
      · have HH := Lib.hid (show longM m = true by rw [HA.out, hany]; simp [tooLong, h6])
        have hd : decide ((x.val.length : Int) > 24) = true := by simp; omega
        clear hany
        go_wp2_with fail
        go_ret
        rw [HH.out]
        exact ⟨rfl, hb0.on hbr⟩
      have hd6 : decide ((x.val.length : Int) > 24) = false := by simp; omega
      have HN := Lib.hid (show (m.recs.any fun r => tooLong r.key r.val) = (m.recs.drop (i + 1)).any fun r => tooLong r.key r.val by rw [hany]; simp [tooLong, h5, h6])
      clear hany
      go_wp2_with fail
      go_roundw
      case rel => exact ⟨i + 1, by go_num, by omega, hbr, HN.out⟩
      case measure => simp [intOf]; omega
    · have hin : n ≤ i := by omega
      have HH := Lib.hid (show longM m = false by rw [HA.out, hany, List.drop_of_length_le (by rw [HL.out]; omega)]; rfl)
      clear hany
      go_wp2_with fail
      go_ret
      rw [HH.out]
      exact ⟨rfl, hb0.on hbr⟩

set_option maxRecDepth 100000 in
set_option maxHeartbeats 4000000 in
theorem rZero_any (m : Msg) (a : Option Addr) (n c : Nat) (w : World) (hn : m.recs.length = n) (hx : n ≤ 9223372036854775807) :
    Calls Try.prog 33 #[msgV m a n c] w fun e w' => e = .returned (.bool (m.te == 0 && restM m)) ∧ Below w.heap.size w w' := by
  have hB := (MsgAt.new w m a n c)
  have hb0 := (Below.refl w.heap.size w).alloc (Nat.le_refl _) (msgObj m a n c)
  unfold msgObj at hB hb0
  obtain ⟨kind, te, di, id, lsn, low, key, hi, del, found, val, recs, err⟩ := m
  unfold msgV
  simp only at *
  go_enter Try.func33, Try.ntmps33
  go_upto_region 1 with fail
  generalize w.alloc (.cells #[.int .i64 kind, .int .u64 te, .int .u64 di, .int .u64 id, .int .u64 lsn, .int .u64 low, .string ⟨key.toArray⟩, .string ⟨hi.toArray⟩, .bool del, .bool found, .string ⟨val.toArray⟩, .slice a n c, .int .i64 err] 26) = w1 at *
  obtain ⟨c0, c1, c2, c3, c4, c5, c6, c7, c8, c9, c10, c11, c12⟩ := hB.cells
  simp only at *
  have hrm : (te == 0 && restM ⟨kind, te, di, id, lsn, low, key, hi, del, found, val, recs, err⟩) = (te == 0 && (di == 0 && id == 0 && lsn == 0 && low == 0 && key.isEmpty && hi.isEmpty && !del && !found && val.isEmpty && recs.isEmpty && err == 0)) := rfl
  have hre : recs.isEmpty = (n == 0) := by
    rw [← hn]; cases recs <;> simp
  rw [hre] at hrm
  have HR := Lib.hid hrm
  have HN := Lib.hid hn
  clear hrm hn hre hB
  go_wp2_with fail
  all_goals
    go_ret
    clear c0 c1 c2 c3 c4 c5 c6 c7 c8 c9 c10 c11 c12
    refine ⟨ret_bool ?_, hb0⟩
    have hr := HR.out
    clear HR HN hb0
    rw [hr]
    simp_all

/-- What wiping gives: a message in memory, its records none or the same. -/
def WipedR (m : Msg) (w : World) (e : Ending) (w' : World) : Prop :=
  ∃ a n c, e = .returned (msgV (wipeR m) a n c) ∧ (wipeR m).recs.length = n ∧ n ≤ 9223372036854775807 ∧ Below w.heap.size w w'

end Go.Proofs.Ytnijijcbdajodaa
