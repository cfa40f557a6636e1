/-
  The walk of DmsgKnown. No condition.
-/
import Derived.Test.YtnijijcbdajodaaWalk14T
namespace Go.Proofs.Ytnijijcbdajodaa
set_option linter.unusedVariables false
set_option linter.unusedSimpArgs false
open Go.RowKit
set_option maxRecDepth 100000 in
set_option maxHeartbeats 8000000 in
theorem known_any (w : World) : Calls Try.prog 7 #[] w fun e w' => e = .returned (.bool true) ∧ Below w.heap.size w w' := by
  go_enter Try.func7, Try.ntmps7
  go_wp2_with fail
  refine (rows_any w).mono ?_
  rintro e wa ⟨G, rfl, hG, hbw⟩
  have hGlt := hG.1
  go_wp2_with fail
  go_loopw [2, 3, 4, 5, 6, 7, 8, 9] (fun s2 _ _ _ _ _ _ _ wr => ∃ i : Nat, i ≤ 16 ∧ s2 = .int .i64 i ∧ Below wa.heap.size wa wr) (fun s2 _ _ _ _ _ _ _ _ => 16 - (intOf s2).toNat)
  case atStart => exact ⟨0, by omega, rfl, Below.refl _ _⟩
  case round =>
    obtain ⟨i, hi, rfl, hbr⟩ := hrel
    by_cases hlt : i < 16
    · obtain ⟨x, hx⟩ : ∃ x, rowsM[i]? = some x := ⟨_, List.getElem?_eq_getElem (show i < rowsM.length from hlt)⟩
      have hm := List.mem_of_getElem? hx
      obtain ⟨hck, hc1, hc2, hc3, hc4⟩ := rowOk_is (rows_fine x hm)
      obtain ⟨hok, hk1, hk2⟩ := okB_ok (rows_ok x hm)
      obtain ⟨a, n, c, hin, hr⟩ := hG.2 i x hx
      have HG := Lib.hid (show ∀ w', Below wa.heap.size wa w' → w'.cell? ⟨G, i * 13, none⟩ = some (.int .i64 x.kind) ∧ w'.cell? ⟨G, i * 13 + 1, none⟩ = some (.int .u64 x.te) ∧ w'.cell? ⟨G, i * 13 + 2, none⟩ = some (.int .u64 x.di) ∧ w'.cell? ⟨G, i * 13 + 3, none⟩ = some (.int .u64 x.id) ∧ w'.cell? ⟨G, i * 13 + 4, none⟩ = some (.int .u64 x.lsn) ∧ w'.cell? ⟨G, i * 13 + 5, none⟩ = some (.int .u64 x.low) ∧ w'.cell? ⟨G, i * 13 + 6, none⟩ = some (.string ⟨x.key.toArray⟩) ∧ w'.cell? ⟨G, i * 13 + 7, none⟩ = some (.string ⟨x.hi.toArray⟩) ∧ w'.cell? ⟨G, i * 13 + 8, none⟩ = some (.bool x.del) ∧ w'.cell? ⟨G, i * 13 + 9, none⟩ = some (.bool x.found) ∧ w'.cell? ⟨G, i * 13 + 10, none⟩ = some (.string ⟨x.val.toArray⟩) ∧ w'.cell? ⟨G, i * 13 + 11, none⟩ = some (.slice a n c) ∧ w'.cell? ⟨G, i * 13 + 12, none⟩ = some (.int .i64 x.err) from fun w' hb => (hin.on hb hGlt).cells)
      have hok0 : ({ x with te := 0 } : Msg).ok := { hok with te := by show 0 < U64; decide }
      have hok1 : ({ x with te := 1099511627777 } : Msg).ok := { hok with te := by show 1099511627777 < U64; decide }
      have hok2 : ({ x with kind := -x.kind } : Msg).ok := { hok with kind := by simp only; omega }
      have hok3 : ({ x with di := 0 } : Msg).ok := { hok with di := by show 0 < U64; decide }
      have HEn := Lib.hid (show ∀ w', Below wa.heap.size wa w' → Calls Try.prog 8 #[.agg #[.int .i64 x.kind, .int .u64 x.te, .int .u64 x.di, .int .u64 x.id, .int .u64 x.lsn, .int .u64 x.low, .string ⟨x.key.toArray⟩, .string ⟨x.hi.toArray⟩, .bool x.del, .bool x.found, .string ⟨x.val.toArray⟩, .slice a n c, .int .i64 x.err]] w' fun e w'' => e = .returned (.tuple #[.string ⟨(encM x).toArray⟩, .int .i64 0]) ∧ Below wa.heap.size wa w'' from
        fun w' hb => (encode_any x a n c w' (hr.on hb) hok).mono fun e w'' ⟨h1, h2⟩ => ⟨by rw [h1, hck]; rfl, hb.on h2⟩)
      have HK0 := Lib.hid (show ∀ w', Below wa.heap.size wa w' → Calls Try.prog 10 #[.agg #[.int .i64 x.kind, .int .u64 0, .int .u64 x.di, .int .u64 x.id, .int .u64 x.lsn, .int .u64 x.low, .string ⟨x.key.toArray⟩, .string ⟨x.hi.toArray⟩, .bool x.del, .bool x.found, .string ⟨x.val.toArray⟩, .slice a n c, .int .i64 x.err]] w' fun e w'' => e = .returned (.int .i64 2) ∧ Below w'.heap.size w' w'' from
        fun w' hb => (check_any { x with te := 0 } a n c w' (hr.on hb) hok0).mono fun e w'' ⟨h1, h2⟩ => ⟨by rw [h1, hc1]; rfl, h2⟩)
      have HK1 := Lib.hid (show ∀ w', Below wa.heap.size wa w' → Calls Try.prog 10 #[.agg #[.int .i64 x.kind, .int .u64 1099511627777, .int .u64 x.di, .int .u64 x.id, .int .u64 x.lsn, .int .u64 x.low, .string ⟨x.key.toArray⟩, .string ⟨x.hi.toArray⟩, .bool x.del, .bool x.found, .string ⟨x.val.toArray⟩, .slice a n c, .int .i64 x.err]] w' fun e w'' => e = .returned (.int .i64 2) ∧ Below w'.heap.size w' w'' from
        fun w' hb => (check_any { x with te := 1099511627777 } a n c w' (hr.on hb) hok1).mono fun e w'' ⟨h1, h2⟩ => ⟨by rw [h1, hc2]; rfl, h2⟩)
      have HK2 := Lib.hid (show ∀ w', Below wa.heap.size wa w' → Calls Try.prog 10 #[.agg #[.int .i64 (-x.kind), .int .u64 x.te, .int .u64 x.di, .int .u64 x.id, .int .u64 x.lsn, .int .u64 x.low, .string ⟨x.key.toArray⟩, .string ⟨x.hi.toArray⟩, .bool x.del, .bool x.found, .string ⟨x.val.toArray⟩, .slice a n c, .int .i64 x.err]] w' fun e w'' => e = .returned (.int .i64 2) ∧ Below w'.heap.size w' w'' from
        fun w' hb => (check_any { x with kind := -x.kind } a n c w' (hr.on hb) hok2).mono fun e w'' ⟨h1, h2⟩ => ⟨by rw [h1, hc3]; rfl, h2⟩)
      have HK3 := Lib.hid (show x.kind ≠ 1 → ∀ w', Below wa.heap.size wa w' → Calls Try.prog 10 #[.agg #[.int .i64 x.kind, .int .u64 x.te, .int .u64 0, .int .u64 x.id, .int .u64 x.lsn, .int .u64 x.low, .string ⟨x.key.toArray⟩, .string ⟨x.hi.toArray⟩, .bool x.del, .bool x.found, .string ⟨x.val.toArray⟩, .slice a n c, .int .i64 x.err]] w' fun e w'' => e = .returned (.int .i64 2) ∧ Below w'.heap.size w' w'' from
        fun hk w' hb => (check_any { x with di := 0 } a n c w' (hr.on hb) hok3).mono fun e w'' ⟨h1, h2⟩ => ⟨by rw [h1, hc4 hk]; rfl, h2⟩)
      have HRB := Lib.hid (read_back14 hck)
      have HLe := Lib.hid (enc_len14 hck)
      have HR := Lib.hid hr
      have hneg : IntKind.i64.wrap (-x.kind) = -x.kind := IntWalk.i64_in _ (by omega)
      clear hm hck hc1 hc2 hc3 hc4 hok0 hok1 hok2 hok3 hok hin hx hr
      obtain ⟨c0, c1, c2, c3, c4, c5, c6, c7, c8, c9, c10, c11, c12⟩ := HG.out wr hbr
      go_wp2_with fail
      refine (HEn.out wr hbr).mono ?_
      rintro e w1 ⟨rfl, hbr1⟩
      clear c0 c1 c2 c3 c4 c5 c6 c7 c8 c9 c10 c11 c12
      obtain ⟨s, hs⟩ : ∃ s, encM x = s := ⟨_, rfl⟩
      have hrb := HRB.out
      have hle := HLe.out
      rw [hs] at hrb hle ⊢
      have HRB2 := Lib.hid hrb
      clear hs hrb HEn
      go_wp2_with fail
      refine (decode_any s w1 (by omega)).mono ?_
      rw [HRB2.out]
      rintro e w2 ⟨hb2, a3, n3, c3, rfl, hr3, _⟩
      have hbr2 := hbr1.on hb2
      unfold msgV
      go_upto_region 7 with fail
      have hF : MsgAt (w2.alloc (.cells #[.int .i64 x.kind, .int .u64 x.te, .int .u64 x.di, .int .u64 x.id, .int .u64 x.lsn, .int .u64 x.low, .string ⟨x.key.toArray⟩, .string ⟨x.hi.toArray⟩, .bool x.del, .bool x.found, .string ⟨x.val.toArray⟩, .slice a3 n3 c3, .int .i64 x.err] 26)) w2.heap.size x a3 n3 c3 := Blk.new w2 (msgCells x a3 n3 c3) _
      have hb3 := (Below.refl w2.heap.size w2).alloc (Nat.le_refl _) (.cells #[.int .i64 x.kind, .int .u64 x.te, .int .u64 x.di, .int .u64 x.id, .int .u64 x.lsn, .int .u64 x.low, .string ⟨x.key.toArray⟩, .string ⟨x.hi.toArray⟩, .bool x.del, .bool x.found, .string ⟨x.val.toArray⟩, .slice a3 n3 c3, .int .i64 x.err] 26)
      have hbr3 := hbr2.on hb3
      have hr4 := hr3.on hb3
      generalize w2.alloc (.cells #[.int .i64 x.kind, .int .u64 x.te, .int .u64 x.di, .int .u64 x.id, .int .u64 x.lsn, .int .u64 x.low, .string ⟨x.key.toArray⟩, .string ⟨x.hi.toArray⟩, .bool x.del, .bool x.found, .string ⟨x.val.toArray⟩, .slice a3 n3 c3, .int .i64 x.err] 26) = w3 at *
      clear hb2 hbr1 hbr2 hb3 hr3
      generalize w2.heap.size = F at *
      have HSm := Lib.hid (show ∀ w', Below w3.heap.size w3 w' → Calls Try.prog 16 #[.agg #[.int .i64 x.kind, .int .u64 x.te, .int .u64 x.di, .int .u64 x.id, .int .u64 x.lsn, .int .u64 x.low, .string ⟨x.key.toArray⟩, .string ⟨x.hi.toArray⟩, .bool x.del, .bool x.found, .string ⟨x.val.toArray⟩, .slice a3 n3 c3, .int .i64 x.err], .agg #[.int .i64 x.kind, .int .u64 x.te, .int .u64 x.di, .int .u64 x.id, .int .u64 x.lsn, .int .u64 x.low, .string ⟨x.key.toArray⟩, .string ⟨x.hi.toArray⟩, .bool x.del, .bool x.found, .string ⟨x.val.toArray⟩, .slice a n c, .int .i64 x.err]] w' fun e w'' => e = .returned (.bool true) ∧ Below w3.heap.size w3 w'' from
        fun w' hb => (same_eq x a3 a n3 c3 n c w' (hr4.on hb) ((HR.out.on hbr3).on hb)).mono fun e w'' ⟨h1, h2⟩ => ⟨h1, hb.on h2⟩)
      have HC := Lib.hid (show ∀ w', Below w3.heap.size w3 w' → w'.cell? ⟨F, 0, none⟩ = some (.int .i64 x.kind) ∧ w'.cell? ⟨F, 1, none⟩ = some (.int .u64 x.te) ∧ w'.cell? ⟨F, 2, none⟩ = some (.int .u64 x.di) ∧ w'.cell? ⟨F, 3, none⟩ = some (.int .u64 x.id) ∧ w'.cell? ⟨F, 4, none⟩ = some (.int .u64 x.lsn) ∧ w'.cell? ⟨F, 5, none⟩ = some (.int .u64 x.low) ∧ w'.cell? ⟨F, 6, none⟩ = some (.string ⟨x.key.toArray⟩) ∧ w'.cell? ⟨F, 7, none⟩ = some (.string ⟨x.hi.toArray⟩) ∧ w'.cell? ⟨F, 8, none⟩ = some (.bool x.del) ∧ w'.cell? ⟨F, 9, none⟩ = some (.bool x.found) ∧ w'.cell? ⟨F, 10, none⟩ = some (.string ⟨x.val.toArray⟩) ∧ w'.cell? ⟨F, 11, none⟩ = some (.slice a3 n3 c3) ∧ w'.cell? ⟨F, 12, none⟩ = some (.int .i64 x.err) from fun w' hb => by
        have h1 : MsgAt w' F x a3 n3 c3 := Blk.on hF hb
        exact h1.cells)
      have HG3 := Lib.hid (show ∀ w', Below w3.heap.size w3 w' → w'.cell? ⟨G, i * 13, none⟩ = some (.int .i64 x.kind) ∧ w'.cell? ⟨G, i * 13 + 1, none⟩ = some (.int .u64 x.te) ∧ w'.cell? ⟨G, i * 13 + 2, none⟩ = some (.int .u64 x.di) ∧ w'.cell? ⟨G, i * 13 + 3, none⟩ = some (.int .u64 x.id) ∧ w'.cell? ⟨G, i * 13 + 4, none⟩ = some (.int .u64 x.lsn) ∧ w'.cell? ⟨G, i * 13 + 5, none⟩ = some (.int .u64 x.low) ∧ w'.cell? ⟨G, i * 13 + 6, none⟩ = some (.string ⟨x.key.toArray⟩) ∧ w'.cell? ⟨G, i * 13 + 7, none⟩ = some (.string ⟨x.hi.toArray⟩) ∧ w'.cell? ⟨G, i * 13 + 8, none⟩ = some (.bool x.del) ∧ w'.cell? ⟨G, i * 13 + 9, none⟩ = some (.bool x.found) ∧ w'.cell? ⟨G, i * 13 + 10, none⟩ = some (.string ⟨x.val.toArray⟩) ∧ w'.cell? ⟨G, i * 13 + 11, none⟩ = some (.slice a n c) ∧ w'.cell? ⟨G, i * 13 + 12, none⟩ = some (.int .i64 x.err) from fun w' hb => HG.out w' (hbr3.on hb))
      clear hF hr4
      refine wp_region_settle (Below w3.heap.size w3) (by kernel_rfl) (by kernel_rfl) (by kernel_rfl) (below_drew (Below.refl _ _)) ?_
      repeat (first
        | (refine settled_not ?_ ?_
           · rfl
           simp only [Act.put, List.setIfInBounds_toArray, List.set_cons_zero, List.set_cons_succ])
        | (refine settled_val (v := ?_) ?_ (fun w' hS => ?_) ?_
           rotate_left
           · rfl
           · obtain ⟨c0, c1, c2, c3, c4, c5, c6, c7, c8, c9, c10, c11, c12⟩ := HG3.out w' hS
             obtain ⟨d0, d1, d2, d3, d4, d5, d6, d7, d8, d9, d10, d11, d12⟩ := HC.out w' hS
             go_simp
             with_reducible rfl
           simp only [Act.put, List.setIfInBounds_toArray, List.set_cons_zero, List.set_cons_succ])
        | (refine settled_call (f := 16) (v := .bool true) ?_ (fun w' hS => ?_) (fun w' hS => HSm.out w' hS) ?_
           · rfl
           · go_simp
           simp only [Act.put, List.setIfInBounds_toArray, List.set_cons_zero, List.set_cons_succ]))
      refine settled_nil (fun w4 hS4 => ?_)
      have hbr4 := hbr3.on hS4
      clear hbr3 hS4 HC HG3 HSm
      obtain ⟨c0, c1, c2, c3, c4, c5, c6, c7, c8, c9, c10, c11, c12⟩ := HG.out w4 hbr4
      go_upto_region 11 with fail
      have hN : MsgAt (w4.alloc (.cells #[.int .i64 x.kind, .int .u64 0, .int .u64 x.di, .int .u64 x.id, .int .u64 x.lsn, .int .u64 x.low, .string ⟨x.key.toArray⟩, .string ⟨x.hi.toArray⟩, .bool x.del, .bool x.found, .string ⟨x.val.toArray⟩, .slice a n c, .int .i64 x.err] 26)) w4.heap.size { x with te := 0 } a n c := Blk.new w4 (msgCells { x with te := 0 } a n c) _
      have hbN := (Below.refl w4.heap.size w4).alloc (Nat.le_refl _) (.cells #[.int .i64 x.kind, .int .u64 0, .int .u64 x.di, .int .u64 x.id, .int .u64 x.lsn, .int .u64 x.low, .string ⟨x.key.toArray⟩, .string ⟨x.hi.toArray⟩, .bool x.del, .bool x.found, .string ⟨x.val.toArray⟩, .slice a n c, .int .i64 x.err] 26)
      generalize w4.alloc (.cells #[.int .i64 x.kind, .int .u64 0, .int .u64 x.di, .int .u64 x.id, .int .u64 x.lsn, .int .u64 x.low, .string ⟨x.key.toArray⟩, .string ⟨x.hi.toArray⟩, .bool x.del, .bool x.found, .string ⟨x.val.toArray⟩, .slice a n c, .int .i64 x.err] 26) = w5 at *
      have hbr5 := hbr4.on hbN
      have hNge := hbr4.size
      clear c0 c1 c2 c3 c4 c5 c6 c7 c8 c9 c10 c11 c12 hbN hbr4
      generalize w4.heap.size = N at *
      obtain ⟨c0, c1, c2, c3, c4, c5, c6, c7, c8, c9, c10, c11, c12⟩ := HG.out w5 hbr5
      go_upto_region 13 with fail
      have hO : MsgAt (w5.alloc (.cells #[.int .i64 x.kind, .int .u64 1099511627777, .int .u64 x.di, .int .u64 x.id, .int .u64 x.lsn, .int .u64 x.low, .string ⟨x.key.toArray⟩, .string ⟨x.hi.toArray⟩, .bool x.del, .bool x.found, .string ⟨x.val.toArray⟩, .slice a n c, .int .i64 x.err] 26)) w5.heap.size { x with te := 1099511627777 } a n c := Blk.new w5 (msgCells { x with te := 1099511627777 } a n c) _
      have hbO := (Below.refl w5.heap.size w5).alloc (Nat.le_refl _) (.cells #[.int .i64 x.kind, .int .u64 1099511627777, .int .u64 x.di, .int .u64 x.id, .int .u64 x.lsn, .int .u64 x.low, .string ⟨x.key.toArray⟩, .string ⟨x.hi.toArray⟩, .bool x.del, .bool x.found, .string ⟨x.val.toArray⟩, .slice a n c, .int .i64 x.err] 26)
      generalize w5.alloc (.cells #[.int .i64 x.kind, .int .u64 1099511627777, .int .u64 x.di, .int .u64 x.id, .int .u64 x.lsn, .int .u64 x.low, .string ⟨x.key.toArray⟩, .string ⟨x.hi.toArray⟩, .bool x.del, .bool x.found, .string ⟨x.val.toArray⟩, .slice a n c, .int .i64 x.err] 26) = w6 at *
      have hbr6 := hbr5.on hbO
      have hN6 : MsgAt w6 N { x with te := 0 } a n c := Blk.on hN hbO
      clear c0 c1 c2 c3 c4 c5 c6 c7 c8 c9 c10 c11 c12 hbO hbr5 hN
      generalize w5.heap.size = O at *
      obtain ⟨c0, c1, c2, c3, c4, c5, c6, c7, c8, c9, c10, c11, c12⟩ := HG.out w6 hbr6
      go_upto_region 14 with fail
      have hP0 : MsgAt (w6.alloc (.cells #[.int .i64 x.kind, .int .u64 x.te, .int .u64 x.di, .int .u64 x.id, .int .u64 x.lsn, .int .u64 x.low, .string ⟨x.key.toArray⟩, .string ⟨x.hi.toArray⟩, .bool x.del, .bool x.found, .string ⟨x.val.toArray⟩, .slice a n c, .int .i64 x.err] 26)) w6.heap.size x a n c := Blk.new w6 (msgCells x a n c) _
      have hbP := (Below.refl w6.heap.size w6).alloc (Nat.le_refl _) (.cells #[.int .i64 x.kind, .int .u64 x.te, .int .u64 x.di, .int .u64 x.id, .int .u64 x.lsn, .int .u64 x.low, .string ⟨x.key.toArray⟩, .string ⟨x.hi.toArray⟩, .bool x.del, .bool x.found, .string ⟨x.val.toArray⟩, .slice a n c, .int .i64 x.err] 26)
      generalize w6.alloc (.cells #[.int .i64 x.kind, .int .u64 x.te, .int .u64 x.di, .int .u64 x.id, .int .u64 x.lsn, .int .u64 x.low, .string ⟨x.key.toArray⟩, .string ⟨x.hi.toArray⟩, .bool x.del, .bool x.found, .string ⟨x.val.toArray⟩, .slice a n c, .int .i64 x.err] 26) = w7 at *
      have hbr7 := hbr6.on hbP
      have hN7 : MsgAt w7 N { x with te := 0 } a n c := Blk.on hN6 hbP
      have hO7 : MsgAt w7 O { x with te := 1099511627777 } a n c := Blk.on hO hbP
      have hOlt := hO.lt
      have hNlt := hN6.lt
      clear c0 c1 c2 c3 c4 c5 c6 c7 c8 c9 c10 c11 c12 hbP hbr6 hN6 hO
      generalize w6.heap.size = P at *
      obtain ⟨c0, c1, c2, c3, c4, c5, c6, c7, c8, c9, c10, c11, c12⟩ := HG.out w7 hbr7
      have HB := Lib.hid hbr7
      go_cut [] (fun wx => MsgAt wx P { x with kind := -x.kind } a n c ∧ MsgAt wx N { x with te := 0 } a n c ∧ MsgAt wx O { x with te := 1099511627777 } a n c ∧ Below wa.heap.size wa wx)
      case first =>
        have fP := Blk.free hP0 0
        have p0 : w7.cell? ⟨P, 0, none⟩ = some (.int .i64 x.kind) := hP0.cells.1
        have hP8 : MsgAt (w7.setCell ⟨P, 0, none⟩ (.int .i64 (-x.kind))) P { x with kind := -x.kind } a n c := Blk.set hP0 0 _
        have hN8 : MsgAt (w7.setCell ⟨P, 0, none⟩ (.int .i64 (-x.kind))) N { x with te := 0 } a n c := Blk.other hN7 _ _ (by show N ≠ P; omega)
        have hO8 : MsgAt (w7.setCell ⟨P, 0, none⟩ (.int .i64 (-x.kind))) O { x with te := 1099511627777 } a n c := Blk.other hO7 _ _ (by show O ≠ P; omega)
        have hbr8 : Below wa.heap.size wa (w7.setCell ⟨P, 0, none⟩ (.int .i64 (-x.kind))) := HB.out.setCell (by show wa.heap.size ≤ P; omega) _
        go_wp2_with fail
        go_meet
        exact ⟨hP8, hN8, hO8, hbr8⟩
      case rest =>
      obtain ⟨hP8, hN8, hO8, hbr8⟩ := hcut
      clear c0 c1 c2 c3 c4 c5 c6 c7 c8 c9 c10 c11 c12 hP0 hN7 hO7 hbr7 HB
      generalize wc = w8 at *
      obtain ⟨d0, d1, d2, d3, d4, d5, d6, d7, d8, d9, d10, d11, d12⟩ : w8.cell? ⟨N, 0, none⟩ = some (.int .i64 x.kind) ∧ w8.cell? ⟨N, 1, none⟩ = some (.int .u64 0) ∧ w8.cell? ⟨N, 2, none⟩ = some (.int .u64 x.di) ∧ w8.cell? ⟨N, 3, none⟩ = some (.int .u64 x.id) ∧ w8.cell? ⟨N, 4, none⟩ = some (.int .u64 x.lsn) ∧ w8.cell? ⟨N, 5, none⟩ = some (.int .u64 x.low) ∧ w8.cell? ⟨N, 6, none⟩ = some (.string ⟨x.key.toArray⟩) ∧ w8.cell? ⟨N, 7, none⟩ = some (.string ⟨x.hi.toArray⟩) ∧ w8.cell? ⟨N, 8, none⟩ = some (.bool x.del) ∧ w8.cell? ⟨N, 9, none⟩ = some (.bool x.found) ∧ w8.cell? ⟨N, 10, none⟩ = some (.string ⟨x.val.toArray⟩) ∧ w8.cell? ⟨N, 11, none⟩ = some (.slice a n c) ∧ w8.cell? ⟨N, 12, none⟩ = some (.int .i64 x.err) := hN8.cells
      go_wp2_with fail
      refine (HK0.out w8 hbr8).mono ?_
      rintro e w9 ⟨rfl, hb⟩
      clear d0 d1 d2 d3 d4 d5 d6 d7 d8 d9 d10 d11 d12
      have hN9 := Blk.on hN8 hb
      have hO9 : MsgAt w9 O { x with te := 1099511627777 } a n c := Blk.on hO8 hb
      have hP9 : MsgAt w9 P { x with kind := -x.kind } a n c := Blk.on hP8 hb
      have hbr9 := hbr8.on hb
      clear hN8 hO8 hP8 hb hbr8
      obtain ⟨d0, d1, d2, d3, d4, d5, d6, d7, d8, d9, d10, d11, d12⟩ : w9.cell? ⟨O, 0, none⟩ = some (.int .i64 x.kind) ∧ w9.cell? ⟨O, 1, none⟩ = some (.int .u64 1099511627777) ∧ w9.cell? ⟨O, 2, none⟩ = some (.int .u64 x.di) ∧ w9.cell? ⟨O, 3, none⟩ = some (.int .u64 x.id) ∧ w9.cell? ⟨O, 4, none⟩ = some (.int .u64 x.lsn) ∧ w9.cell? ⟨O, 5, none⟩ = some (.int .u64 x.low) ∧ w9.cell? ⟨O, 6, none⟩ = some (.string ⟨x.key.toArray⟩) ∧ w9.cell? ⟨O, 7, none⟩ = some (.string ⟨x.hi.toArray⟩) ∧ w9.cell? ⟨O, 8, none⟩ = some (.bool x.del) ∧ w9.cell? ⟨O, 9, none⟩ = some (.bool x.found) ∧ w9.cell? ⟨O, 10, none⟩ = some (.string ⟨x.val.toArray⟩) ∧ w9.cell? ⟨O, 11, none⟩ = some (.slice a n c) ∧ w9.cell? ⟨O, 12, none⟩ = some (.int .i64 x.err) := hO9.cells
      go_wp2_with fail
      refine (HK1.out w9 hbr9).mono ?_
      rintro e w10 ⟨rfl, hb⟩
      clear d0 d1 d2 d3 d4 d5 d6 d7 d8 d9 d10 d11 d12
      have hN10 := Blk.on hN9 hb
      have hP10 : MsgAt w10 P { x with kind := -x.kind } a n c := Blk.on hP9 hb
      have hbr10 := hbr9.on hb
      clear hN9 hO9 hP9 hb hbr9
      obtain ⟨d0, d1, d2, d3, d4, d5, d6, d7, d8, d9, d10, d11, d12⟩ : w10.cell? ⟨P, 0, none⟩ = some (.int .i64 (-x.kind)) ∧ w10.cell? ⟨P, 1, none⟩ = some (.int .u64 x.te) ∧ w10.cell? ⟨P, 2, none⟩ = some (.int .u64 x.di) ∧ w10.cell? ⟨P, 3, none⟩ = some (.int .u64 x.id) ∧ w10.cell? ⟨P, 4, none⟩ = some (.int .u64 x.lsn) ∧ w10.cell? ⟨P, 5, none⟩ = some (.int .u64 x.low) ∧ w10.cell? ⟨P, 6, none⟩ = some (.string ⟨x.key.toArray⟩) ∧ w10.cell? ⟨P, 7, none⟩ = some (.string ⟨x.hi.toArray⟩) ∧ w10.cell? ⟨P, 8, none⟩ = some (.bool x.del) ∧ w10.cell? ⟨P, 9, none⟩ = some (.bool x.found) ∧ w10.cell? ⟨P, 10, none⟩ = some (.string ⟨x.val.toArray⟩) ∧ w10.cell? ⟨P, 11, none⟩ = some (.slice a n c) ∧ w10.cell? ⟨P, 12, none⟩ = some (.int .i64 x.err) := hP10.cells
      go_wp2_with fail
      refine (HK2.out w10 hbr10).mono ?_
      rintro e w11 ⟨rfl, hb⟩
      clear d0 d1 d2 d3 d4 d5 d6 d7 d8 d9 d10 d11 d12
      have hN11 : MsgAt w11 N { x with te := 0 } a n c := Blk.on hN10 hb
      have hbr11 := hbr10.on hb
      clear hN10 hP10 hb hbr10 HK0 HK1 HK2
      obtain ⟨c0, c1, c2, c3, c4, c5, c6, c7, c8, c9, c10, c11, c12⟩ := HG.out w11 hbr11
      by_cases hk : x.kind = 1
      · go_wp2_with fail
        go_roundw
        case rel => exact ⟨i + 1, by omega, by go_num, hbr11⟩
        case measure => simp [intOf]; omega
      · have HK := Lib.hid (HK3.out hk)
        have HB := Lib.hid hbr11
        have hNge' : wa.heap.size ≤ N := by omega
        go_upto_region 18 with fail
        go_cut [] (fun wx => MsgAt wx N x a n c ∧ Below wa.heap.size wa wx)
        case first =>
          refine wp_region_seq ?_
          refine seq_step (by rfl) (fun K hK => ?_)
          go_simp
          refine hK.out _ _ ?_
          clear hK K
          refine seq_step (by rfl) (fun K hK => ?_)
          go_simp
          refine hK.out _ _ ?_
          clear hK K
          refine seq_step (by rfl) (fun K hK => ?_)
          go_simp
          refine hK.out _ _ ?_
          clear hK K
          refine seq_step (by rfl) (fun K hK => ?_)
          go_simp
          refine hK.out _ _ ?_
          clear hK K
          refine seq_step (by rfl) (fun K hK => ?_)
          refine wp_store_row 26 _ _ rfl N _ rfl rfl 26 _ hN11 rfl rfl (by simp [Value.oneCell']) ?_
          refine hK.out _ _ (seq_nil ?_)
          clear hK K
          simp only [Act.put, List.setIfInBounds_toArray, List.set_cons_zero, List.set_cons_succ]
          go_wp2_with fail
          go_meet
          exact ⟨setRow_blk hN11 (msgCells x a n c), Mod.fresh14 (setRow_mod w11 N _) HB.out hNge'⟩
        case rest =>
        obtain ⟨hN12, hbr12⟩ := hcut
        clear c0 c1 c2 c3 c4 c5 c6 c7 c8 c9 c10 c11 c12 hN11 hbr11 HB
        generalize wc = w12 at *
        have f2 := Blk.free hN12 2
        have g2 : w12.cell? ⟨N, 2, none⟩ = some (.int .u64 x.di) := hN12.cells.2.2.1
        have hN13 : MsgAt (w12.setCell ⟨N, 2, none⟩ (.int .u64 0)) N { x with di := 0 } a n c := Blk.set hN12 2 (.int .u64 0)
        have hbr13 : Below wa.heap.size wa (w12.setCell ⟨N, 2, none⟩ (.int .u64 0)) := hbr12.setCell hNge' _
        go_upto_region 20 with fail
        clear f2 g2 hN12 hbr12
        generalize w12.setCell ⟨N, 2, none⟩ (.int .u64 0) = w13 at *
        obtain ⟨d0, d1, d2, d3, d4, d5, d6, d7, d8, d9, d10, d11, d12⟩ : w13.cell? ⟨N, 0, none⟩ = some (.int .i64 x.kind) ∧ w13.cell? ⟨N, 1, none⟩ = some (.int .u64 x.te) ∧ w13.cell? ⟨N, 2, none⟩ = some (.int .u64 0) ∧ w13.cell? ⟨N, 3, none⟩ = some (.int .u64 x.id) ∧ w13.cell? ⟨N, 4, none⟩ = some (.int .u64 x.lsn) ∧ w13.cell? ⟨N, 5, none⟩ = some (.int .u64 x.low) ∧ w13.cell? ⟨N, 6, none⟩ = some (.string ⟨x.key.toArray⟩) ∧ w13.cell? ⟨N, 7, none⟩ = some (.string ⟨x.hi.toArray⟩) ∧ w13.cell? ⟨N, 8, none⟩ = some (.bool x.del) ∧ w13.cell? ⟨N, 9, none⟩ = some (.bool x.found) ∧ w13.cell? ⟨N, 10, none⟩ = some (.string ⟨x.val.toArray⟩) ∧ w13.cell? ⟨N, 11, none⟩ = some (.slice a n c) ∧ w13.cell? ⟨N, 12, none⟩ = some (.int .i64 x.err) := hN13.cells
        go_wp2_with fail
        refine (HK.out w13 hbr13).mono ?_
        rintro e w14 ⟨rfl, hb⟩
        have hbr14 := hbr13.on hb
        clear d0 d1 d2 d3 d4 d5 d6 d7 d8 d9 d10 d11 d12
        go_wp2_with fail
        go_roundw
        case rel => exact ⟨i + 1, by omega, by go_num, hbr14⟩
        case measure => simp [intOf]; omega
    · have hbw2 := hbw.on hbr
      clear hbr hG hGlt hbw
      go_upto_region 22 with fail
      first
        | (rename_i hK; exact tail_any w wr hbw2 _ _ _ _ _ _ _ _ _ _ _ _ _ _ _ _ _ _ _ _ _ _ _ _ _ _ _ _ _ _ _ _ _ _ _ _ _ _ _ _ _ _ _ _ _ _ _ _ _ _ _ _ _ _ _ _ _ _ _ _ _ _ _ _ _ _ _ _ _ _ _ _ _ _ _ _ _ _ _ _ _ _ _ _ _ _ _ _ _ _ _ _ _ _ _ _ _ _ _ _ _ _ _ _ _ _ _ _ _ _ _ _ _ _ _ _ _ _ _ _ _ _ _ _ _ _ _ _ _ _ _ _ _ _ _ _ _ _ _ _ _ _ _ _ _ _ _ _ _ _ _ _ _ _ _ _ _ _ _ _ _ _ _ _ _ _ _ _ _ _ _ _ _ _ _ _ _ _ _ _ _ _ _ _ _ _ _ _ _ _ _ _ _ _ _ _ _ _ _ _ _ _ _ _ _ _ _ _ _ _ _ _ _ _ _ _ _ _ _ _ _ _ _ _ _ _ hK)
        | (rename_i hK _; exact tail_any w wr hbw2 _ _ _ _ _ _ _ _ _ _ _ _ _ _ _ _ _ _ _ _ _ _ _ _ _ _ _ _ _ _ _ _ _ _ _ _ _ _ _ _ _ _ _ _ _ _ _ _ _ _ _ _ _ _ _ _ _ _ _ _ _ _ _ _ _ _ _ _ _ _ _ _ _ _ _ _ _ _ _ _ _ _ _ _ _ _ _ _ _ _ _ _ _ _ _ _ _ _ _ _ _ _ _ _ _ _ _ _ _ _ _ _ _ _ _ _ _ _ _ _ _ _ _ _ _ _ _ _ _ _ _ _ _ _ _ _ _ _ _ _ _ _ _ _ _ _ _ _ _ _ _ _ _ _ _ _ _ _ _ _ _ _ _ _ _ _ _ _ _ _ _ _ _ _ _ _ _ _ _ _ _ _ _ _ _ _ _ _ _ _ _ _ _ _ _ _ _ _ _ _ _ _ _ _ _ _ _ _ _ _ _ _ _ _ _ _ _ _ _ _ _ _ _ _ _ _ hK)
        | (rename_i hK _ _; exact tail_any w wr hbw2 _ _ _ _ _ _ _ _ _ _ _ _ _ _ _ _ _ _ _ _ _ _ _ _ _ _ _ _ _ _ _ _ _ _ _ _ _ _ _ _ _ _ _ _ _ _ _ _ _ _ _ _ _ _ _ _ _ _ _ _ _ _ _ _ _ _ _ _ _ _ _ _ _ _ _ _ _ _ _ _ _ _ _ _ _ _ _ _ _ _ _ _ _ _ _ _ _ _ _ _ _ _ _ _ _ _ _ _ _ _ _ _ _ _ _ _ _ _ _ _ _ _ _ _ _ _ _ _ _ _ _ _ _ _ _ _ _ _ _ _ _ _ _ _ _ _ _ _ _ _ _ _ _ _ _ _ _ _ _ _ _ _ _ _ _ _ _ _ _ _ _ _ _ _ _ _ _ _ _ _ _ _ _ _ _ _ _ _ _ _ _ _ _ _ _ _ _ _ _ _ _ _ _ _ _ _ _ _ _ _ _ _ _ _ _ _ _ _ _ _ _ _ _ _ _ _ hK)
end Go.Proofs.Ytnijijcbdajodaa
