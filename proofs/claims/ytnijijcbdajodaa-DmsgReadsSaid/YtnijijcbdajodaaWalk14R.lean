/-
  The walk of DmsgReads.
-/
import Derived.Test.YtnijijcbdajodaaHelp14
import Derived.Test.YtnijijcbdajodaaRef14D
import Derived.Test.YtnijijcbdajodaaRef14S
namespace Go.Proofs.Ytnijijcbdajodaa
set_option linter.unusedVariables false
set_option linter.unusedSimpArgs false
open Go.RowKit

set_option maxRecDepth 100000 in
set_option maxHeartbeats 4000000 in
theorem reads_any (l : List UInt8) (w : World) (hl : l.length ≤ 9223372036854775807) :
    Calls Try.prog 4 #[.string ⟨l.toArray⟩] w fun e w' => e = .returned (.bool true) ∧ Below w.heap.size w w' := by
  go_enter Try.func4, Try.ntmps4
  generalize hq : min l.length 5000 = p
  have hp1 : p ≤ l.length := by omega
  have hp2 : p ≤ 5000 := by omega
  have hminp : ∀ w', (Builtin.min_ #[3, 3] 3 #[.int .i64 l.length, .int .i64 5000]).run Try.prog w' = .ok (.int .i64 p) w' := by
    intro w'
    rw [run_min_int2, show (if (5000 : Int) < l.length then (5000 : Int) else l.length) = p from by split <;> omega]
  have hx : (⟨l.toArray⟩ : ByteArray).extract 0 p = ⟨(l.take p).toArray⟩ := by rw [extract_list, List.drop_zero, Nat.sub_zero]
  clear hq
  go_wp2_with fail
  generalize hb : l.take p = b at *
  have hbl : b.length = p := by rw [← hb, List.length_take]; omega
  clear hminp hx hb
  refine (decode_any b _ (by omega)).mono ?_
  rintro e w1 ⟨hb1, hm1⟩
  have hrd := rDecode_any b
  cases hro : readM b with
  | none =>
    rw [hro] at hm1
    simp only at hm1
    subst hm1
    have hrq : refM b = none := by rw [refM_eq, hro]
    rw [hrq] at hrd
    have HRD := Lib.hid hrd
    clear hrd hrq hro
    have hM : MsgAt (w1.alloc (.cells #[.int .i64 0, .int .u64 0, .int .u64 0, .int .u64 0, .int .u64 0, .int .u64 0, .string ⟨#[]⟩, .string ⟨#[]⟩, .bool false, .bool false, .string ⟨#[]⟩, .slice none 0 0, .int .i64 0] 26)) w1.heap.size zeroMsg none 0 0 := Blk.new w1 (msgCells zeroMsg none 0 0) _
    have hbb1 := below_one hb1 (.cells #[.int .i64 0, .int .u64 0, .int .u64 0, .int .u64 0, .int .u64 0, .int .u64 0, .string ⟨#[]⟩, .string ⟨#[]⟩, .bool false, .bool false, .string ⟨#[]⟩, .slice none 0 0, .int .i64 0] 26)
    have hl1 := hM.lt
    unfold msgV zeroMsg
    go_wp2_with fail
    generalize w1.alloc (.cells #[.int .i64 0, .int .u64 0, .int .u64 0, .int .u64 0, .int .u64 0, .int .u64 0, .string ⟨#[]⟩, .string ⟨#[]⟩, .bool false, .bool false, .string ⟨#[]⟩, .slice none 0 0, .int .i64 0] 26) = w2 at *
    generalize w1.heap.size = P at *
    clear hb1
    refine (HRD.out w2 (by omega)).mono ?_
    rintro e w3 ⟨hb3, rfl⟩
    have hM3 : MsgAt w3 P zeroMsg none 0 0 := Blk.on hM hb3
    have hbb3 := hbb1.on hb3
    clear hM hbb1 hb3 hl1 HRD
    have hN : MsgAt (w3.alloc (.cells #[.int .i64 0, .int .u64 0, .int .u64 0, .int .u64 0, .int .u64 0, .int .u64 0, .string ⟨#[]⟩, .string ⟨#[]⟩, .bool false, .bool false, .string ⟨#[]⟩, .slice none 0 0, .int .i64 0] 26)) w3.heap.size zeroMsg none 0 0 := Blk.new w3 (msgCells zeroMsg none 0 0) _
    have hM4 : MsgAt (w3.alloc (.cells #[.int .i64 0, .int .u64 0, .int .u64 0, .int .u64 0, .int .u64 0, .int .u64 0, .string ⟨#[]⟩, .string ⟨#[]⟩, .bool false, .bool false, .string ⟨#[]⟩, .slice none 0 0, .int .i64 0] 26)) P zeroMsg none 0 0 := Blk.alloc hM3 _
    have hbb4 := below_one hbb3 (.cells #[.int .i64 0, .int .u64 0, .int .u64 0, .int .u64 0, .int .u64 0, .int .u64 0, .string ⟨#[]⟩, .string ⟨#[]⟩, .bool false, .bool false, .string ⟨#[]⟩, .slice none 0 0, .int .i64 0] 26)
    unfold msgV zeroMsg
    go_upto_region 4 with fail
    generalize w3.alloc (.cells #[.int .i64 0, .int .u64 0, .int .u64 0, .int .u64 0, .int .u64 0, .int .u64 0, .string ⟨#[]⟩, .string ⟨#[]⟩, .bool false, .bool false, .string ⟨#[]⟩, .slice none 0 0, .int .i64 0] 26) = w4 at *
    generalize w3.heap.size = R at *
    have HS := Lib.hid (show ∀ w', Below w4.heap.size w4 w' → Calls Try.prog 15 #[.agg #[.int .i64 0, .int .u64 0, .int .u64 0, .int .u64 0, .int .u64 0, .int .u64 0, .string ⟨#[]⟩, .string ⟨#[]⟩, .bool false, .bool false, .string ⟨#[]⟩, .slice none 0 0, .int .i64 0], .agg #[.int .i64 0, .int .u64 0, .int .u64 0, .int .u64 0, .int .u64 0, .int .u64 0, .string ⟨#[]⟩, .string ⟨#[]⟩, .bool false, .bool false, .string ⟨#[]⟩, .slice none 0 0, .int .i64 0]] w' fun e w'' => e = .returned (.bool true) ∧ Below w4.heap.size w4 w'' from fun w' hb => (rSame_eq zeroMsg none none 0 0 0 0 w' (recs_none w') (recs_none w')).mono fun e w'' ⟨h1, h2⟩ => ⟨h1, hb.on h2⟩)
    have HC := Lib.hid (show ∀ w', Below w4.heap.size w4 w' → w'.cell? ⟨P, 0, none⟩ = some (.int .i64 0) ∧ w'.cell? ⟨R, 0, none⟩ = some (.int .i64 0) ∧ w'.cell? ⟨P, 1, none⟩ = some (.int .u64 0) ∧ w'.cell? ⟨R, 1, none⟩ = some (.int .u64 0) ∧ w'.cell? ⟨P, 2, none⟩ = some (.int .u64 0) ∧ w'.cell? ⟨R, 2, none⟩ = some (.int .u64 0) ∧ w'.cell? ⟨P, 3, none⟩ = some (.int .u64 0) ∧ w'.cell? ⟨R, 3, none⟩ = some (.int .u64 0) ∧ w'.cell? ⟨P, 4, none⟩ = some (.int .u64 0) ∧ w'.cell? ⟨R, 4, none⟩ = some (.int .u64 0) ∧ w'.cell? ⟨P, 5, none⟩ = some (.int .u64 0) ∧ w'.cell? ⟨R, 5, none⟩ = some (.int .u64 0) ∧ w'.cell? ⟨P, 6, none⟩ = some (.string ⟨#[]⟩) ∧ w'.cell? ⟨R, 6, none⟩ = some (.string ⟨#[]⟩) ∧ w'.cell? ⟨P, 7, none⟩ = some (.string ⟨#[]⟩) ∧ w'.cell? ⟨R, 7, none⟩ = some (.string ⟨#[]⟩) ∧ w'.cell? ⟨P, 8, none⟩ = some (.bool false) ∧ w'.cell? ⟨R, 8, none⟩ = some (.bool false) ∧ w'.cell? ⟨P, 9, none⟩ = some (.bool false) ∧ w'.cell? ⟨R, 9, none⟩ = some (.bool false) ∧ w'.cell? ⟨P, 10, none⟩ = some (.string ⟨#[]⟩) ∧ w'.cell? ⟨R, 10, none⟩ = some (.string ⟨#[]⟩) ∧ w'.cell? ⟨P, 11, none⟩ = some (.slice none 0 0) ∧ w'.cell? ⟨R, 11, none⟩ = some (.slice none 0 0) ∧ w'.cell? ⟨P, 12, none⟩ = some (.int .i64 0) ∧ w'.cell? ⟨R, 12, none⟩ = some (.int .i64 0) from fun w' hb => by
      have h1 : MsgAt w' P zeroMsg none 0 0 := Blk.on hM4 hb
      have h2 : MsgAt w' R zeroMsg none 0 0 := Blk.on hN hb
      obtain ⟨c0, c1, c2, c3, c4, c5, c6, c7, c8, c9, c10, c11, c12⟩ := h1.cells
      obtain ⟨d0, d1, d2, d3, d4, d5, d6, d7, d8, d9, d10, d11, d12⟩ := h2.cells
      exact ⟨c0, d0, c1, d1, c2, d2, c3, d3, c4, d4, c5, d5, c6, d6, c7, d7, c8, d8, c9, d9, c10, d10, c11, d11, c12, d12⟩)
    clear hM3 hbb3 hM4 hN
    refine wp_region_text (Below w4.heap.size w4) (Below.refl _ _) ?_
    repeat (first
      | (refine settled_not ?_ ?_
         · rfl
         simp only [Act.put, List.setIfInBounds_toArray, List.set_cons_zero, List.set_cons_succ])
      | (refine settled_val (v := ?_) ?_ (fun w' hS => ?_) ?_
         rotate_left
         · rfl
         · obtain ⟨c0, d0, c1, d1, c2, d2, c3, d3, c4, d4, c5, d5, c6, d6, c7, d7, c8, d8, c9, d9, c10, d10, c11, d11, c12, d12⟩ := HC.out w' hS
           go_simp
           with_reducible rfl
         simp only [Act.put, List.setIfInBounds_toArray, List.set_cons_zero, List.set_cons_succ])
      | (refine settled_call (f := 15) (v := .bool true) ?_ (fun w' hS => ?_) (fun w' hS => HS.out w' hS) ?_
         · rfl
         · go_simp
         simp only [Act.put, List.setIfInBounds_toArray, List.set_cons_zero, List.set_cons_succ])
      | (refine settled_call (f := 12) (v := .bool true) ?_ (fun w' hS => ?_) (fun w' hS => kept works_any w4 w' hS) ?_
         · rfl
         · go_simp
         simp only [Act.put, List.setIfInBounds_toArray, List.set_cons_zero, List.set_cons_succ]))
    refine settled_nil (fun w' hS => ?_)
    go_wp2_with fail
    refine bodyPost_ret (results_tmp rfl _ _ _) rfl ⟨rfl, hbb4.on hS⟩
  | some m =>
    rw [hro] at hm1
    obtain ⟨a, n, c, rfl, hr1, hok1⟩ := hm1
    have hrq : refM b = some m := by rw [refM_eq, hro]
    rw [hrq] at hrd
    have HRD := Lib.hid hrd
    clear hrd hrq hro
    have hM : MsgAt (w1.alloc (.cells #[.int .i64 m.kind, .int .u64 m.te, .int .u64 m.di, .int .u64 m.id, .int .u64 m.lsn, .int .u64 m.low, .string ⟨m.key.toArray⟩, .string ⟨m.hi.toArray⟩, .bool m.del, .bool m.found, .string ⟨m.val.toArray⟩, .slice a n c, .int .i64 m.err] 26)) w1.heap.size m a n c := Blk.new w1 (msgCells m a n c) _
    have hbw := (Below.refl w1.heap.size w1).alloc (Nat.le_refl _) (.cells #[.int .i64 m.kind, .int .u64 m.te, .int .u64 m.di, .int .u64 m.id, .int .u64 m.lsn, .int .u64 m.low, .string ⟨m.key.toArray⟩, .string ⟨m.hi.toArray⟩, .bool m.del, .bool m.found, .string ⟨m.val.toArray⟩, .slice a n c, .int .i64 m.err] 26)
    have hr2 := hr1.on hbw
    have hbb1 := hb1.on hbw
    unfold msgV
    go_wp2_with fail
    generalize w1.alloc (.cells #[.int .i64 m.kind, .int .u64 m.te, .int .u64 m.di, .int .u64 m.id, .int .u64 m.lsn, .int .u64 m.low, .string ⟨m.key.toArray⟩, .string ⟨m.hi.toArray⟩, .bool m.del, .bool m.found, .string ⟨m.val.toArray⟩, .slice a n c, .int .i64 m.err] 26) = w2 at *
    generalize w1.heap.size = P at *
    clear hb1 hbw hr1
    refine (HRD.out w2 (by omega)).mono ?_
    rintro e w3 ⟨hb3, a2, n2, c2, rfl, hr3, _⟩
    have hM3 : MsgAt w3 P m a n c := Blk.on hM hb3
    have hbb3 := hbb1.on hb3
    have hr2' := hr2.on hb3
    clear hM hbb1 hb3 HRD hr2
    have hbw := (Below.refl w3.heap.size w3).alloc (Nat.le_refl _) (.cells #[.int .i64 m.kind, .int .u64 m.te, .int .u64 m.di, .int .u64 m.id, .int .u64 m.lsn, .int .u64 m.low, .string ⟨m.key.toArray⟩, .string ⟨m.hi.toArray⟩, .bool m.del, .bool m.found, .string ⟨m.val.toArray⟩, .slice a2 n2 c2, .int .i64 m.err] 26)
    have hN : MsgAt (w3.alloc (.cells #[.int .i64 m.kind, .int .u64 m.te, .int .u64 m.di, .int .u64 m.id, .int .u64 m.lsn, .int .u64 m.low, .string ⟨m.key.toArray⟩, .string ⟨m.hi.toArray⟩, .bool m.del, .bool m.found, .string ⟨m.val.toArray⟩, .slice a2 n2 c2, .int .i64 m.err] 26)) w3.heap.size m a2 n2 c2 := Blk.new w3 (msgCells m a2 n2 c2) _
    have hM4 : MsgAt (w3.alloc (.cells #[.int .i64 m.kind, .int .u64 m.te, .int .u64 m.di, .int .u64 m.id, .int .u64 m.lsn, .int .u64 m.low, .string ⟨m.key.toArray⟩, .string ⟨m.hi.toArray⟩, .bool m.del, .bool m.found, .string ⟨m.val.toArray⟩, .slice a2 n2 c2, .int .i64 m.err] 26)) P m a n c := Blk.alloc hM3 _
    have hbb4 := hbb3.on hbw
    have hra := hr2'.on hbw
    have hrb := hr3.on hbw
    unfold msgV
    go_upto_region 4 with fail
    generalize w3.alloc (.cells #[.int .i64 m.kind, .int .u64 m.te, .int .u64 m.di, .int .u64 m.id, .int .u64 m.lsn, .int .u64 m.low, .string ⟨m.key.toArray⟩, .string ⟨m.hi.toArray⟩, .bool m.del, .bool m.found, .string ⟨m.val.toArray⟩, .slice a2 n2 c2, .int .i64 m.err] 26) = w4 at *
    generalize w3.heap.size = R at *
    have HS := Lib.hid (show ∀ w', Below w4.heap.size w4 w' → Calls Try.prog 15 #[.agg #[.int .i64 m.kind, .int .u64 m.te, .int .u64 m.di, .int .u64 m.id, .int .u64 m.lsn, .int .u64 m.low, .string ⟨m.key.toArray⟩, .string ⟨m.hi.toArray⟩, .bool m.del, .bool m.found, .string ⟨m.val.toArray⟩, .slice a n c, .int .i64 m.err], .agg #[.int .i64 m.kind, .int .u64 m.te, .int .u64 m.di, .int .u64 m.id, .int .u64 m.lsn, .int .u64 m.low, .string ⟨m.key.toArray⟩, .string ⟨m.hi.toArray⟩, .bool m.del, .bool m.found, .string ⟨m.val.toArray⟩, .slice a2 n2 c2, .int .i64 m.err]] w' fun e w'' => e = .returned (.bool true) ∧ Below w4.heap.size w4 w'' from fun w' hb => (rSame_eq m a a2 n c n2 c2 w' (hra.on hb) (hrb.on hb)).mono fun e w'' ⟨h1, h2⟩ => ⟨h1, hb.on h2⟩)
    have HC := Lib.hid (show ∀ w', Below w4.heap.size w4 w' → w'.cell? ⟨P, 0, none⟩ = some (.int .i64 m.kind) ∧ w'.cell? ⟨R, 0, none⟩ = some (.int .i64 m.kind) ∧ w'.cell? ⟨P, 1, none⟩ = some (.int .u64 m.te) ∧ w'.cell? ⟨R, 1, none⟩ = some (.int .u64 m.te) ∧ w'.cell? ⟨P, 2, none⟩ = some (.int .u64 m.di) ∧ w'.cell? ⟨R, 2, none⟩ = some (.int .u64 m.di) ∧ w'.cell? ⟨P, 3, none⟩ = some (.int .u64 m.id) ∧ w'.cell? ⟨R, 3, none⟩ = some (.int .u64 m.id) ∧ w'.cell? ⟨P, 4, none⟩ = some (.int .u64 m.lsn) ∧ w'.cell? ⟨R, 4, none⟩ = some (.int .u64 m.lsn) ∧ w'.cell? ⟨P, 5, none⟩ = some (.int .u64 m.low) ∧ w'.cell? ⟨R, 5, none⟩ = some (.int .u64 m.low) ∧ w'.cell? ⟨P, 6, none⟩ = some (.string ⟨m.key.toArray⟩) ∧ w'.cell? ⟨R, 6, none⟩ = some (.string ⟨m.key.toArray⟩) ∧ w'.cell? ⟨P, 7, none⟩ = some (.string ⟨m.hi.toArray⟩) ∧ w'.cell? ⟨R, 7, none⟩ = some (.string ⟨m.hi.toArray⟩) ∧ w'.cell? ⟨P, 8, none⟩ = some (.bool m.del) ∧ w'.cell? ⟨R, 8, none⟩ = some (.bool m.del) ∧ w'.cell? ⟨P, 9, none⟩ = some (.bool m.found) ∧ w'.cell? ⟨R, 9, none⟩ = some (.bool m.found) ∧ w'.cell? ⟨P, 10, none⟩ = some (.string ⟨m.val.toArray⟩) ∧ w'.cell? ⟨R, 10, none⟩ = some (.string ⟨m.val.toArray⟩) ∧ w'.cell? ⟨P, 11, none⟩ = some (.slice a n c) ∧ w'.cell? ⟨R, 11, none⟩ = some (.slice a2 n2 c2) ∧ w'.cell? ⟨P, 12, none⟩ = some (.int .i64 m.err) ∧ w'.cell? ⟨R, 12, none⟩ = some (.int .i64 m.err) from fun w' hb => by
      have h1 : MsgAt w' P m a n c := Blk.on hM4 hb
      have h2 : MsgAt w' R m a2 n2 c2 := Blk.on hN hb
      obtain ⟨c0, c1, c2', c3, c4, c5, c6, c7, c8, c9, c10, c11, c12⟩ := h1.cells
      obtain ⟨d0, d1, d2, d3, d4, d5, d6, d7, d8, d9, d10, d11, d12⟩ := h2.cells
      exact ⟨c0, d0, c1, d1, c2', d2, c3, d3, c4, d4, c5, d5, c6, d6, c7, d7, c8, d8, c9, d9, c10, d10, c11, d11, c12, d12⟩)
    clear hM3 hbb3 hM4 hN hra hrb hr2' hr3 hbw
    refine wp_region_text (Below w4.heap.size w4) (Below.refl _ _) ?_
    repeat (first
      | (refine settled_not ?_ ?_
         · rfl
         simp only [Act.put, List.setIfInBounds_toArray, List.set_cons_zero, List.set_cons_succ])
      | (refine settled_val (v := ?_) ?_ (fun w' hS => ?_) ?_
         rotate_left
         · rfl
         · obtain ⟨c0, d0, c1, d1, c2', d2, c3, d3, c4, d4, c5, d5, c6, d6, c7, d7, c8, d8, c9, d9, c10, d10, c11, d11, c12, d12⟩ := HC.out w' hS
           go_simp
           with_reducible rfl
         simp only [Act.put, List.setIfInBounds_toArray, List.set_cons_zero, List.set_cons_succ])
      | (refine settled_call (f := 15) (v := .bool true) ?_ (fun w' hS => ?_) (fun w' hS => HS.out w' hS) ?_
         · rfl
         · go_simp
         simp only [Act.put, List.setIfInBounds_toArray, List.set_cons_zero, List.set_cons_succ])
      | (refine settled_call (f := 12) (v := .bool true) ?_ (fun w' hS => ?_) (fun w' hS => kept works_any w4 w' hS) ?_
         · rfl
         · go_simp
         simp only [Act.put, List.setIfInBounds_toArray, List.set_cons_zero, List.set_cons_succ]))
    refine settled_nil (fun w' hS => ?_)
    go_wp2_with fail
    refine bodyPost_ret (results_tmp rfl _ _ _) rfl ⟨rfl, hbb4.on hS⟩
theorem reads_str (s : ByteArray) (hs : s.size ≤ maxLen) (w : World) :
    Calls Try.prog 4 #[.string s] w fun e w' => e = .returned (.bool true) ∧ Below w.heap.size w w' := by
  obtain ⟨⟨l⟩⟩ := s
  exact reads_any l w (by have := hs; unfold maxLen at this; simpa [ByteArray.size] using this)
end Go.Proofs.Ytnijijcbdajodaa
