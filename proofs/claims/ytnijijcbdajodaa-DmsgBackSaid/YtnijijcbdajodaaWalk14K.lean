/-
  The walk of DmsgBack.
-/
import Derived.Test.YtnijijcbdajodaaHelp14
import Derived.Deep.DeepCutAuto
namespace Go.Proofs.Ytnijijcbdajodaa
set_option linter.unusedVariables false
set_option linter.unusedSimpArgs false
open Go.RowKit

set_option maxRecDepth 100000 in
set_option maxHeartbeats 4000000 in
theorem back_any (m : Msg) (a : Option Addr) (n c : Nat) (l : List UInt8) (w : World) (h : RecsAt w a n c m.recs) (hok : m.ok) (hl : l.length ≤ 9223372036854775807) :
    Calls Try.prog 5 #[msgV m a n c, .string ⟨l.toArray⟩] w fun e w' => e = .returned (.bool true) ∧ Below w.heap.size w w' := by
  have hE := MsgAt.new w m a n c
  have hb0 := (Below.refl w.heap.size w).alloc (Nat.le_refl _) (msgObj m a n c)
  have hr0 := h.on hb0
  have hold : ∀ g o, a = some ⟨g, o, none⟩ → 0 < n → g < w.heap.size := fun g o e hn => h.old hn g o e
  unfold msgObj at hE hb0 hr0
  unfold msgV
  go_enter Try.func5, Try.ntmps5
  go_wp2_with fail
  generalize w.alloc (.cells #[.int .i64 m.kind, .int .u64 m.te, .int .u64 m.di, .int .u64 m.id, .int .u64 m.lsn, .int .u64 m.low, .string ⟨m.key.toArray⟩, .string ⟨m.hi.toArray⟩, .bool m.del, .bool m.found, .string ⟨m.val.toArray⟩, .slice a n c, .int .i64 m.err] 26) = w0 at *
  clear h
  refine (works_any w0).mono ?_
  rintro e w1 ⟨rfl, hb1⟩
  have hE1 : MsgAt w1 w.heap.size m a n c := Blk.on hE hb1
  have hr1 := hr0.on hb1
  have hbb1 := hb0.on hb1
  clear hE hb0 hr0 hb1
  generalize hm : min n 505 = q
  have hm1 : q ≤ n := by omega
  have hm2 : q ≤ 505 := by omega
  have hnc := hr1.cap
  have hnm := hr1.max
  have c11 := hE1.cells.2.2.2.2.2.2.2.2.2.2.2.1
  have z11 := Blk.free hE1 11
  have hmin : ∀ w', (Builtin.min_ #[3, 3] 3 #[.int .i64 n, .int .i64 505]).run Try.prog w' = .ok (.int .i64 q) w' := by
    intro w'
    rw [run_min_int2, show (if (505 : Int) < n then (505 : Int) else n) = q from by split <;> omega]
  have hE2 : MsgAt (w1.setCell ⟨w.heap.size, 11, none⟩ (.slice a q c)) w.heap.size (m.cut q) a q c := Blk.set hE1 11 _
  have hbb2 := hbb1.setCell (p := ⟨w.heap.size, 11, none⟩) (Nat.le_refl _) (.slice a q c)
  have hr2 : RecsAt (w1.setCell ⟨w.heap.size, 11, none⟩ (.slice a q c)) a q c (m.cut q).recs := (hr1.take q hm1).other0 ⟨w.heap.size, 11, none⟩ (.slice a q c) (fun hn g o e => by
    have := hold g o e (by omega)
    show g ≠ w.heap.size
    omega)
  have hok2 := hok.cut q
  clear hE1 hr1 hbb1 hm
  go_upto_region 4 with fail
  generalize w1.setCell ⟨w.heap.size, 11, none⟩ (.slice a q c) = w2 at *
  clear c11 z11 hold hmin hok
  obtain ⟨c0, c1, c2, c3, c4, c5, c6, c7, c8, c9, c10, c11, c12⟩ := hE2.cells
  have hen := encode_any (m.cut q) a q c w2 hr2 hok2
  unfold msgV at hen
  have Hen := Lib.hid hen
  clear hen
  go_wp2_with fail
  refine Hen.out.mono ?_
  rintro e w3 ⟨rfl, hb3⟩
  have hE3 : MsgAt w3 w.heap.size (m.cut q) a q c := Blk.on hE2 hb3
  have hbb3 := hbb2.on hb3
  have hr3 := hr2.on hb3
  clear c0 c1 c2 c3 c4 c5 c6 c7 c8 c9 c10 c11 c12 Hen hb3 hbb2 hr2 hE2
  generalize m.cut q = mm at *
  go_upto_if 29 with fail
  go_cut [4, 5, 6, 7, 8] (fun _ _ _ _ _ wx => Below w.heap.size w wx)
  case first =>
    by_cases hck : checkM mm = 0
    · have hle := enc_len14 hck
      have hpos : 0 < (encM mm).length := by unfold encM; rw [if_pos hck, seal_length]; omega
      have hrb := read_back14 hck
      rw [hck]
      generalize encM mm = s at *
      have hse : (s == []) = false := by cases s <;> simp at hpos ⊢
      go_wp2_with fail
      refine (decode_any s w3 (by omega)).mono ?_
      rw [hrb]
      rintro e w4 ⟨hb4, a3, n3, c3, rfl, hr5, _⟩
      have hE4 : MsgAt w4 w.heap.size mm a q c := Blk.on hE3 hb4
      have hr4 := hr3.on hb4
      have hbb4 := hbb3.on hb4
      unfold msgV
      clear hE3 hr3 hbb3 hb4
      go_upto_region 7 with fail
      have hF : MsgAt (w4.alloc (msgObj mm a3 n3 c3)) w4.heap.size mm a3 n3 c3 := MsgAt.new _ _ _ _ _
      have hb7 := (Below.refl w4.heap.size w4).alloc (Nat.le_refl _) (msgObj mm a3 n3 c3)
      unfold msgObj at hF hb7
      have hE5 : MsgAt _ w.heap.size mm a q c := Blk.on hE4 hb7
      have hr6 := hr4.on hb7
      have hr7 := hr5.on hb7
      have hbb7 := hbb4.on hb7
      generalize w4.alloc (.cells #[.int .i64 mm.kind, .int .u64 mm.te, .int .u64 mm.di, .int .u64 mm.id, .int .u64 mm.lsn, .int .u64 mm.low, .string ⟨mm.key.toArray⟩, .string ⟨mm.hi.toArray⟩, .bool mm.del, .bool mm.found, .string ⟨mm.val.toArray⟩, .slice a3 n3 c3, .int .i64 mm.err] 26) = w7 at *
      clear hE4 hr4 hbb4 hr5 hb7
      generalize w4.heap.size = P at *
      obtain ⟨c0, c1, c2, c3', c4, c5, c6, c7, c8, c9, c10, c11, c12⟩ := hE5.cells
      obtain ⟨d0, d1, d2, d3, d4, d5, d6, d7, d8, d9, d10, d11, d12⟩ := hF.cells
      have hsm := same_eq mm a3 a n3 c3 q c w7 hr7 hr6
      unfold msgV at hsm
      have Hsm := Lib.hid hsm
      clear hsm hE5 hF
      go_wp2_with fail
      refine Hsm.out.mono ?_
      rintro e w8 ⟨rfl, hb8⟩
      clear c0 c1 c2 c3' c4 c5 c6 c7 c8 c9 c10 c11 c12 d0 d1 d2 d3 d4 d5 d6 d7 d8 d9 d10 d11 d12
      go_wp2_with fail
      go_meet
      exact hbb7.on hb8
    · have hci : ((checkM mm : Int) == 0) = false := by simp; omega
      have hcn : ((checkM mm : Int) != (checkM mm : Int)) = false := by simp
      rw [show encM mm = [] from by unfold encM; rw [if_neg hck]]
      obtain ⟨c0, c1, c2, c3, c4, c5, c6, c7, c8, c9, c10, c11, c12⟩ := hE3.cells
      have hch := check_any mm a q c w3 hr3 hok2
      unfold msgV at hch
      have Hch := Lib.hid hch
      clear hch
      go_wp2_with fail
      refine Hch.out.mono ?_
      rintro e w4 ⟨rfl, hb4⟩
      go_wp2_with fail
      go_meet
      exact hbb3.on hb4
  case rest =>
  have hbb5 := hcut
  clear hcut hE3 hr3 hbb3 hok2
  generalize hq : min l.length 5000 = p
  have hp1 : p ≤ l.length := by omega
  have hp2 : p ≤ 5000 := by omega
  have hminp : ∀ w', (Builtin.min_ #[3, 3] 3 #[.int .i64 l.length, .int .i64 5000]).run Try.prog w' = .ok (.int .i64 p) w' := by
    intro w'
    rw [run_min_int2, show (if (5000 : Int) < l.length then (5000 : Int) else l.length) = p from by split <;> omega]
  have hx : (⟨l.toArray⟩ : ByteArray).extract 0 p = ⟨(l.take p).toArray⟩ := by rw [extract_list, List.drop_zero, Nat.sub_zero]
  clear hq
  go_wp2_with fail
  generalize hb : l.take p = b at *
  have hbl : b.length = p := by rw [← hb, List.length_take]; omega
  clear hminp hx hb
  refine (decode_any b _ (by omega)).mono ?_
  rintro e w7 ⟨hb7, hm7⟩
  have hbb7 := hbb5.on hb7
  clear hbb5 hb7
  cases hro : readM b with
  | none =>
    rw [hro] at hm7
    simp only at hm7
    subst hm7
    unfold msgV zeroMsg
    clear hro
    go_upto_region 14 with fail
    have hM : MsgAt (w7.alloc (.cells #[.int .i64 0, .int .u64 0, .int .u64 0, .int .u64 0, .int .u64 0, .int .u64 0, .string ⟨#[]⟩, .string ⟨#[]⟩, .bool false, .bool false, .string ⟨#[]⟩, .slice none 0 0, .int .i64 0] 26)) w7.heap.size zeroMsg none 0 0 := Blk.new w7 (msgCells zeroMsg none 0 0) _
    have hbb8 := below_one hbb7 (.cells #[.int .i64 0, .int .u64 0, .int .u64 0, .int .u64 0, .int .u64 0, .int .u64 0, .string ⟨#[]⟩, .string ⟨#[]⟩, .bool false, .bool false, .string ⟨#[]⟩, .slice none 0 0, .int .i64 0] 26)
    generalize w7.alloc (.cells #[.int .i64 0, .int .u64 0, .int .u64 0, .int .u64 0, .int .u64 0, .int .u64 0, .string ⟨#[]⟩, .string ⟨#[]⟩, .bool false, .bool false, .string ⟨#[]⟩, .slice none 0 0, .int .i64 0] 26) = w8 at *
    clear hbb7
    generalize w7.heap.size = P at *
    obtain ⟨c0, c1, c2, c3, c4, c5, c6, c7, c8, c9, c10, c11, c12⟩ := hM.cells
    simp only [zeroMsg] at c0 c1 c2 c3 c4 c5 c6 c7 c8 c9 c10 c12
    have Hsm := Lib.hid (show Calls Try.prog 16 #[.agg #[.int .i64 0, .int .u64 0, .int .u64 0, .int .u64 0, .int .u64 0, .int .u64 0, .string ⟨#[]⟩, .string ⟨#[]⟩, .bool false, .bool false, .string ⟨#[]⟩, .slice none 0 0, .int .i64 0], .agg #[.int .i64 0, .int .u64 0, .int .u64 0, .int .u64 0, .int .u64 0, .int .u64 0, .string ⟨#[]⟩, .string ⟨#[]⟩, .bool false, .bool false, .string ⟨#[]⟩, .slice none 0 0, .int .i64 0]] w8 fun e w' => e = .returned (.bool true) ∧ Below w8.heap.size w8 w' from same_eq zeroMsg none none 0 0 0 0 w8 (recs_none w8) (recs_none w8))
    clear hM
    go_wp2_with fail
    refine Hsm.out.mono ?_
    rintro e w9 ⟨rfl, hb9⟩
    go_wp2_with fail
    refine bodyPost_ret (results_tmp rfl _ _ _) rfl ⟨rfl, hbb8.on hb9⟩
  | some x =>
    rw [hro] at hm7
    obtain ⟨a2, n2, c2, rfl, hr7, hok7⟩ := hm7
    obtain ⟨q1, q2⟩ := read_lays14 hro
    unfold msgV
    clear hro
    go_upto_region 15 with fail
    have hF : MsgAt (w7.alloc (msgObj x a2 n2 c2)) w7.heap.size x a2 n2 c2 := MsgAt.new _ _ _ _ _
    have hb8 := (Below.refl w7.heap.size w7).alloc (Nat.le_refl _) (msgObj x a2 n2 c2)
    have hr8 := hr7.on hb8
    have hbb8 := hbb7.on hb8
    unfold msgObj at hF hb8 hr8 hbb8
    generalize w7.alloc (.cells #[.int .i64 x.kind, .int .u64 x.te, .int .u64 x.di, .int .u64 x.id, .int .u64 x.lsn, .int .u64 x.low, .string ⟨x.key.toArray⟩, .string ⟨x.hi.toArray⟩, .bool x.del, .bool x.found, .string ⟨x.val.toArray⟩, .slice a2 n2 c2, .int .i64 x.err] 26) = w8 at *
    clear hr7 hbb7 hb8
    generalize w7.heap.size = P at *
    obtain ⟨d0, d1, d2, d3, d4, d5, d6, d7, d8, d9, d10, d11, d12⟩ := hF.cells
    have hen := encode_any x a2 n2 c2 w8 hr8 hok7
    unfold msgV at hen
    rw [q1, q2] at hen
    have Hen := Lib.hid hen
    clear hen q1 q2 hF
    go_wp2_with fail
    refine Hen.out.mono ?_
    rintro e w9 ⟨rfl, hb9⟩
    go_wp2_with fail
    refine bodyPost_ret (results_tmp rfl _ _ _) rfl ⟨rfl, hbb8.on hb9⟩
end Go.Proofs.Ytnijijcbdajodaa
