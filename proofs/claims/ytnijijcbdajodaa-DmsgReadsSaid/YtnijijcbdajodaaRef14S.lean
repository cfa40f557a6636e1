/-
  The walk of the document's Same of layer 14, of a message and itself. Condition: sizes that a machine has.
-/
import Derived.Test.YtnijijcbdajodaaRef14A
namespace Go.Proofs.Ytnijijcbdajodaa
set_option linter.unusedVariables false
set_option linter.unusedSimpArgs false
open Go.RowKit

set_option maxRecDepth 100000 in
set_option maxHeartbeats 4000000 in
theorem rSame_eq (m : Msg) (a b : Option Addr) (n c k d : Nat) (w : World) (ha : RecsAt w a n c m.recs) (hb : RecsAt w b k d m.recs) :
    Calls Try.prog 15 #[msgV m a n c, msgV m b k d] w fun e w' => e = .returned (.bool true) ∧ Below w.heap.size w w' := by
  obtain rfl : k = n := by rw [← ha.len, ← hb.len]
  have hmax := ha.max
  have hE : MsgAt ((w.alloc (msgObj m a k c)).alloc (msgObj m b k d)) w.heap.size m a k c := Blk.alloc (MsgAt.new w m a k c) _
  have hF : MsgAt ((w.alloc (msgObj m a k c)).alloc (msgObj m b k d)) (w.heap.size + 1) m b k d := by
    have h := MsgAt.new (w.alloc (msgObj m a k c)) m b k d
    simpa using h
  have hbl := ((Below.refl w.heap.size w).alloc (Nat.le_refl _) (msgObj m a k c)).alloc (by simp) (msgObj m b k d)
  have ha1 := ha.on hbl
  have hb1 := hb.on hbl
  unfold msgObj at hE hF hbl ha1 hb1
  unfold msgV
  clear ha hb
  go_enter Try.func15, Try.ntmps15
  go_upto_region 1 with fail
  have hEF : w.heap.size ≠ w.heap.size + 1 := by omega
  have hE1 := hE.lt
  have hF1 := hF.lt
  generalize (w.alloc (.cells #[.int .i64 m.kind, .int .u64 m.te, .int .u64 m.di, .int .u64 m.id, .int .u64 m.lsn, .int .u64 m.low, .string ⟨m.key.toArray⟩, .string ⟨m.hi.toArray⟩, .bool m.del, .bool m.found, .string ⟨m.val.toArray⟩, .slice a k c, .int .i64 m.err] 26)).alloc (.cells #[.int .i64 m.kind, .int .u64 m.te, .int .u64 m.di, .int .u64 m.id, .int .u64 m.lsn, .int .u64 m.low, .string ⟨m.key.toArray⟩, .string ⟨m.hi.toArray⟩, .bool m.del, .bool m.found, .string ⟨m.val.toArray⟩, .slice b k d, .int .i64 m.err] 26) = w1 at *
  generalize hEe : w.heap.size = E at *
  generalize E + 1 = F at *
  have HC := Lib.hid (show ∀ w', Below w1.heap.size w1 w' → w'.cell? ⟨E, 11, none⟩ = some (.slice a k c) ∧ w'.cell? ⟨F, 11, none⟩ = some (.slice b k d) from fun w' hb => by
    have h1 : MsgAt w' E m a k c := Blk.on hE hb
    have h2 : MsgAt w' F m b k d := Blk.on hF hb
    exact ⟨h1.cells.2.2.2.2.2.2.2.2.2.2.2.1, h2.cells.2.2.2.2.2.2.2.2.2.2.2.1⟩)
  have HD := Lib.hid (show ∀ w', Below w1.heap.size w1 w' → w'.cell? ⟨E, 0, none⟩ = some (.int .i64 m.kind) ∧ w'.cell? ⟨F, 0, none⟩ = some (.int .i64 m.kind) ∧ w'.cell? ⟨E, 1, none⟩ = some (.int .u64 m.te) ∧ w'.cell? ⟨F, 1, none⟩ = some (.int .u64 m.te) ∧ w'.cell? ⟨E, 2, none⟩ = some (.int .u64 m.di) ∧ w'.cell? ⟨F, 2, none⟩ = some (.int .u64 m.di) ∧ w'.cell? ⟨E, 3, none⟩ = some (.int .u64 m.id) ∧ w'.cell? ⟨F, 3, none⟩ = some (.int .u64 m.id) ∧ w'.cell? ⟨E, 4, none⟩ = some (.int .u64 m.lsn) ∧ w'.cell? ⟨F, 4, none⟩ = some (.int .u64 m.lsn) ∧ w'.cell? ⟨E, 5, none⟩ = some (.int .u64 m.low) ∧ w'.cell? ⟨F, 5, none⟩ = some (.int .u64 m.low) ∧ w'.cell? ⟨E, 6, none⟩ = some (.string ⟨m.key.toArray⟩) ∧ w'.cell? ⟨F, 6, none⟩ = some (.string ⟨m.key.toArray⟩) ∧ w'.cell? ⟨E, 7, none⟩ = some (.string ⟨m.hi.toArray⟩) ∧ w'.cell? ⟨F, 7, none⟩ = some (.string ⟨m.hi.toArray⟩) ∧ w'.cell? ⟨E, 8, none⟩ = some (.bool m.del) ∧ w'.cell? ⟨F, 8, none⟩ = some (.bool m.del) ∧ w'.cell? ⟨E, 9, none⟩ = some (.bool m.found) ∧ w'.cell? ⟨F, 9, none⟩ = some (.bool m.found) ∧ w'.cell? ⟨E, 10, none⟩ = some (.string ⟨m.val.toArray⟩) ∧ w'.cell? ⟨F, 10, none⟩ = some (.string ⟨m.val.toArray⟩) ∧ w'.cell? ⟨E, 12, none⟩ = some (.int .i64 m.err) ∧ w'.cell? ⟨F, 12, none⟩ = some (.int .i64 m.err) from fun w' hb => by
    have h1 : MsgAt w' E m a k c := Blk.on hE hb
    have h2 : MsgAt w' F m b k d := Blk.on hF hb
    obtain ⟨c0, c1, c2, c3, c4, c5, c6, c7, c8, c9, c10, c11, c12⟩ := h1.cells
    obtain ⟨d0, d1, d2, d3, d4, d5, d6, d7, d8, d9, d10, d11, d12⟩ := h2.cells
    exact ⟨c0, d0, c1, d1, c2, d2, c3, d3, c4, d4, c5, d5, c6, d6, c7, d7, c8, d8, c9, d9, c10, d10, c12, d12⟩)
  have HRc := Lib.hid (show ∀ w', Below w1.heap.size w1 w' → Calls Try.prog 42 #[.slice a k c, .slice b k d] w' fun e w'' => e = .returned (.bool true) ∧ Below w1.heap.size w1 w'' from
    fun w' hb => (rRecs_any m.recs m.recs a b k c k d w' (ha1.on hb) (hb1.on hb)).mono fun e w'' ⟨h1, h2⟩ => ⟨by rw [h1]; simp, hb.on h2⟩)
  clear hE hF hF1 hEF
  refine wp_region_text (Below w1.heap.size w1) (Below.refl _ _) ?_
  repeat (first
    | (refine settled_not ?_ ?_
       · rfl
       simp only [Act.put, List.setIfInBounds_toArray, List.set_cons_zero, List.set_cons_succ])
    | (refine settled_val (v := ?_) ?_ (fun w' hS => ?_) ?_
       rotate_left
       · rfl
       · obtain ⟨g1, g2⟩ := HC.out w' hS
         obtain ⟨c0, d0, c1, d1, c2, d2, c3, d3, c4, d4, c5, d5, c6, d6, c7, d7, c8, d8, c9, d9, c10, d10, c12, d12⟩ := HD.out w' hS
         go_simp
         with_reducible rfl
       simp only [Act.put, List.setIfInBounds_toArray, List.set_cons_zero, List.set_cons_succ])
    | (refine settled_call (f := 42) (v := .bool true) ?_ (fun w' hS => ?_) (fun w' hS => HRc.out w' hS) ?_
       · rfl
       · go_simp
       simp only [Act.put, List.setIfInBounds_toArray, List.set_cons_zero, List.set_cons_succ]))
  refine settled_nil (fun w' hS => ?_)
  go_wp2_with fail
  refine bodyPost_ret (results_tmp rfl _ _ _) rfl ⟨rfl, hEe ▸ hbl.trans (hS.mono (show E ≤ w1.heap.size by omega))⟩
end Go.Proofs.Ytnijijcbdajodaa
