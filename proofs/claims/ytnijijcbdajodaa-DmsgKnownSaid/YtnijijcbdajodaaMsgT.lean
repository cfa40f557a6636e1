/-
  The walks of package dmsg's long and values. Condition: sizes that a machine has.
-/
import Derived.Test.YtnijijcbdajodaaMsgW
import Derived.Deep.RegionHeld3
namespace Go.Proofs.Ytnijijcbdajodaa
set_option linter.unusedVariables false
set_option linter.unusedSimpArgs false
open Go.RowKit

theorem below_drew {B : Nat} {a w : World} (h : Below B a w) : Below B a w.drew := ⟨h.os, h.tape, h.output, h.size, h.block⟩
set_option maxHeartbeats 400000 in
theorem tooLong_any (k v : List UInt8) (w : World) (hk : k.length ≤ 9223372036854775807) (hv : v.length ≤ 9223372036854775807) :
    Calls Try.prog 46 #[.string ⟨k.toArray⟩, .string ⟨v.toArray⟩] w fun e w' => e = .returned (.bool (tooLong k v)) ∧ w = w' := by
  have ht : tooLong k v = (decide (16 < k.length) || decide (24 < v.length)) := rfl
  by_cases h1 : 16 < k.length
  · have HT := Lib.hid (show tooLong k v = true by rw [ht]; simp [h1])
    have hd : decide ((k.length : Int) > 16) = true := by simp; omega
    clear ht
    go_enter Try.func46, Try.ntmps46
    go_wp2_with fail
    go_ret
    rw [HT.out]
    exact ⟨rfl, rfl⟩
  · have hd : decide ((k.length : Int) > 16) = false := by simp; omega
    by_cases h2 : 24 < v.length
    · have HT := Lib.hid (show tooLong k v = true by rw [ht]; simp [h2])
      have hd2 : decide ((v.length : Int) > 24) = true := by simp; omega
      clear ht
      go_enter Try.func46, Try.ntmps46
      go_wp2_with fail
      go_ret
      rw [HT.out]
      exact ⟨rfl, rfl⟩
    · have HT := Lib.hid (show tooLong k v = false by rw [ht]; simp [h1, h2])
      have hd2 : decide ((v.length : Int) > 24) = false := by simp; omega
      clear ht
      go_enter Try.func46, Try.ntmps46
      go_wp2_with fail
      go_ret
      rw [HT.out]
      exact ⟨rfl, rfl⟩

/-- The cell of the function that asks a key and a value. -/
def AskAt (w : World) (C : Nat) : Prop := Blk w C [.func (.func 46) #[] #[]] 78
set_option maxHeartbeats 400000 in
theorem long2_any (C : Nat) (r : Rec) (w : World) (hC : AskAt w C) (hr : r.ok) :
    Calls Try.prog 48 #[recV r, .pointer (some ⟨C, 0, none⟩)] w fun e w' => e = .returned (.bool (tooLong r.key r.val)) ∧ Below w.heap.size w w' := by
  have hb0 : Blk (w.alloc (.cells #[.string ⟨r.key.toArray⟩, .int .u64 r.lsn, .bool r.del, .string ⟨r.val.toArray⟩] 43)) w.heap.size (recCells r) 43 := Blk.new _ _ _
  have hr1 := (Below.refl w.heap.size w).alloc (Nat.le_refl _) (.cells #[.string ⟨r.key.toArray⟩, .int .u64 r.lsn, .bool r.del, .string ⟨r.val.toArray⟩] 43)
  have hC1 : AskAt (w.alloc (.cells #[.string ⟨r.key.toArray⟩, .int .u64 r.lsn, .bool r.del, .string ⟨r.val.toArray⟩] 43)) C := Blk.alloc hC _
  unfold recV
  go_enter Try.func48, Try.ntmps48
  go_upto_region 1 with fail
  generalize w.alloc (.cells #[.string ⟨r.key.toArray⟩, .int .u64 r.lsn, .bool r.del, .string ⟨r.val.toArray⟩] 43) = w1 at *
  have e0 : w1.cell? ⟨w.heap.size, 0, none⟩ = some (.string ⟨r.key.toArray⟩) := by rw [hb0.cell]; rfl
  have e3 : w1.cell? ⟨w.heap.size, 3, none⟩ = some (.string ⟨r.val.toArray⟩) := by rw [hb0.cell]; rfl
  have c0 : w1.cell? ⟨C, 0, none⟩ = some (.func (.func 46) #[] #[]) := by unfold AskAt at hC1; rw [hC1.cell]; rfl
  go_wp2_with fail
  refine (tooLong_any r.key r.val w1 hr.key hr.val).mono ?_
  rintro e w2 ⟨rfl, rfl⟩
  go_wp2_with fail
  go_ret
  exact ⟨rfl, hr1⟩

def IdxEnds (b : Bool) (w : World) (e : Ending) (w' : World) : Prop := ∃ z : Int, e = .returned (.int .i64 z) ∧ (decide (z ≥ 0)) = b ∧ Below w.heap.size w w'
def anyLong (rs : List Rec) : Bool := rs.any fun r => tooLong r.key r.val
set_option maxHeartbeats 1000000 in
theorem index_any (C : Nat) (a : Option Addr) (n c : Nat) (rs : List Rec) (w : World) (h : RecsAt w a n c rs) (hr : ∀ r ∈ rs, r.ok) (hC : AskAt w C) :
    Calls Try.prog 82 #[.slice a n c, .func (.func 48) #[] #[.pointer (some ⟨C, 0, none⟩)]] w (IdxEnds (anyLong rs) w) := by
  have hn := h.max
  have HL := Lib.hid h.len
  go_enter Try.func82, Try.ntmps82
  go_wp2_with fail
  go_loopw [5, 8] (fun _ s8 wr => ∃ i : Nat, i ≤ n ∧ s8 = .int .i64 i ∧ Below w.heap.size w wr ∧ anyLong (rs.take i) = false) (fun _ s8 _ => n - (intOf s8).toNat)
  case atStart => exact ⟨0, by omega, rfl, Below.refl _ _, by simp [anyLong]⟩
  case round =>
    obtain ⟨i, hi, rfl, hbw, hall⟩ := hrel
    have HA := Lib.hid hall
    clear hall
    by_cases hlt : i < n
    · obtain ⟨x, g, o, hx, hm, rfl, d0, d1, d2, d3⟩ := h.row hbw hlt
      have hok := hr x hm
      have HX := Lib.hid hx
      have hCw : AskAt wr C := Blk.on hC hbw
      clear hx
      go_wp2_with fail
      refine (show Calls Try.prog 48 #[.agg #[.string ⟨x.key.toArray⟩, .int .u64 x.lsn, .bool x.del, .string ⟨x.val.toArray⟩], .pointer (some ⟨C, 0, none⟩)] wr fun e w' => e = .returned (.bool (tooLong x.key x.val)) ∧ Below wr.heap.size wr w' from long2_any C x wr hCw hok).mono ?_
      rintro e w2 ⟨rfl, hb2⟩
      have hb3 := hbw.on hb2
      clear d0 d1 d2 d3
      cases ht : tooLong x.key x.val
      · have HN := Lib.hid (show anyLong (rs.take (i + 1)) = false by
          unfold anyLong at *
          rw [List.take_add_one, List.any_append, HA.out, HX.out]; simp [ht])
        clear ht
        go_wp2_with fail
        go_roundw
        case rel => exact ⟨i + 1, by omega, by go_num, hb3, HN.out⟩
        case measure => simp [intOf]; omega
      · have HN := Lib.hid (show anyLong rs = true from List.any_eq_true.2 ⟨x, hm, ht⟩)
        clear ht
        go_wp2_with fail
        go_ret
        exact ⟨_, rfl, by rw [HN.out]; simp, hb3⟩
    · have hin : n ≤ i := by omega
      have HN := Lib.hid (show anyLong rs = false by
        have := HA.out
        rwa [List.take_of_length_le (by rw [HL.out]; omega)] at this)
      go_wp2_with fail
      go_ret
      exact ⟨_, rfl, by rw [HN.out]; simp, hbw⟩
theorem contains_any (C : Nat) (a : Option Addr) (n c : Nat) (rs : List Rec) (w : World) (h : RecsAt w a n c rs) (hr : ∀ r ∈ rs, r.ok) (hC : AskAt w C) :
    Calls Try.prog 47 #[.slice a n c, .func (.func 48) #[] #[.pointer (some ⟨C, 0, none⟩)]] w fun e w' => e = .returned (.bool (anyLong rs)) ∧ Below w.heap.size w w' := by
  go_enter Try.func47, Try.ntmps47
  go_wp2_with fail
  refine (index_any C a n c rs w h hr hC).mono ?_
  rintro e w2 ⟨z, rfl, hz, hb⟩
  have HZ := Lib.hid hz
  clear hz
  go_wp2_with fail
  go_ret
  rw [← HZ.out]
  exact ⟨rfl, hb⟩
end Go.Proofs.Ytnijijcbdajodaa
