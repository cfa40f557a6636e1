/-
  The walk of the document's Encode of layer 14. Condition: sizes that a machine has.
-/
import Derived.Test.YtnijijcbdajodaaRef14R
import Derived.Test.YtnijijcbdajodaaWireQ
namespace Go.Proofs.Ytnijijcbdajodaa
set_option linter.unusedVariables false
set_option linter.unusedSimpArgs false
open Go.RowKit

theorem rbit_calls (b : Bool) (w0 : World) : ∀ wa, Below w0.heap.size w0 wa → Calls Try.prog 25 #[.bool b] wa fun e w' => e = .returned (.int .u64 (bitM b)) ∧ Below w0.heap.size w0 w' :=
  fun wa hb => (rBit_any b wa).mono fun e w' ⟨he, hw⟩ => ⟨he, hw ▸ hb⟩

set_option maxRecDepth 100000 in
set_option maxHeartbeats 4000000 in
theorem rEncode_any (m : Msg) (a : Option Addr) (n c : Nat) (w : World) (h : RecsAt w a n c m.recs) (hm : m.ok) :
    Calls Try.prog 9 #[msgV m a n c] w fun e w' => e = .returned (.tuple #[.string ⟨(encM m).toArray⟩, .int .i64 (checkM m)]) ∧ Below w.heap.size w w' := by
  have hmax := h.max
  have HL := Lib.hid h.len
  have hB := (MsgAt.new w m a n c)
  have hb0 := (Below.refl w.heap.size w).alloc (Nat.le_refl _) (msgObj m a n c)
  have hr0 := h.on hb0
  unfold msgObj at hB hb0 hr0
  unfold msgV
  go_enter Try.func9, Try.ntmps9
  go_upto_region 1 with fail
  generalize w.alloc (.cells #[.int .i64 m.kind, .int .u64 m.te, .int .u64 m.di, .int .u64 m.id, .int .u64 m.lsn, .int .u64 m.low, .string ⟨m.key.toArray⟩, .string ⟨m.hi.toArray⟩, .bool m.del, .bool m.found, .string ⟨m.val.toArray⟩, .slice a n c, .int .i64 m.err] 26) = w1 at *
  obtain ⟨c0, c1, c2, c3, c4, c5, c6, c7, c8, c9, c10, c11, c12⟩ := hB.cells
  have Hchk := Lib.hid (rCheck_any m a n c w1 hr0 hm)
  unfold msgV at Hchk
  go_wp2_with fail
  refine Hchk.out.mono ?_
  rintro e w2 ⟨rfl, hb2⟩
  have hB2 : MsgAt w2 w.heap.size m a n c := Blk.on hB hb2
  have hr2 := hr0.on hb2
  have hbb2 := hb0.on hb2
  clear c0 c1 c2 c3 c4 c5 c6 c7 c8 c9 c10 c11 c12 Hchk hB hr0 hb0 hb2
  by_cases hck : checkM m = 0
  case neg =>
    have hne : (((checkM m : Nat) : Int) != 0) = true := by simp; omega
    have HE := Lib.hid (show encM m = [] from if_neg hck)
    go_wp2_with fail
    go_ret2
    rw [HE.out]
    exact ⟨rfl, hbb2⟩
  have HE := Lib.hid (show encM m = sealI (bodyM m) from if_pos hck)
  have HF := Lib.hid (fine_of hck)
  have HZ := Lib.hid hck
  rw [hck]
  obtain ⟨k, hkk, hk1, hk2⟩ := HF.out.kind
  have hwk : IntKind.u64.wrap (k : Int) = (k : Int) := by rw [IntKind.wrap_u64]; omega
  have HKK := Lib.hid hkk
  clear hck
  obtain ⟨c0, c1, c2, c3, c4, c5, c6, c7, c8, c9, c10, c11, c12⟩ := hB2.cells
  rw [hkk] at c0
  clear hkk
  go_upto_region 5 with fail
  have hX : Blk (w2.alloc (.cells #[.int .u64 (k : Int), .int .u64 m.te, .int .u64 m.di, .int .u64 m.id, .int .u64 m.lsn, .int .u64 m.low] 51)) w2.heap.size ([k, m.te, m.di, m.id, m.lsn, m.low].map fun n : Nat => Value.int .u64 (n : Int)) 51 := Blk.new w2 [.int .u64 (k : Int), .int .u64 m.te, .int .u64 m.di, .int .u64 m.id, .int .u64 m.lsn, .int .u64 m.low] _
  have hb3 := (Below.refl w2.heap.size w2).alloc (Nat.le_refl _) (.cells #[.int .u64 (k : Int), .int .u64 m.te, .int .u64 m.di, .int .u64 m.id, .int .u64 m.lsn, .int .u64 m.low] 51)
  generalize w2.alloc (.cells #[.int .u64 (k : Int), .int .u64 m.te, .int .u64 m.di, .int .u64 m.id, .int .u64 m.lsn, .int .u64 m.low] 51) = w3 at *
  have hB3 : MsgAt w3 w.heap.size m a n c := Blk.on hB2 hb3
  have hbb3 := hbb2.on hb3
  clear c0 c1 c2 c3 c4 c5 c6 c7 c8 c9 c10 c11 c12 hB2 hr2 hbb2 hb3
  generalize w2.heap.size = A at *
  have hxs : ∀ x ∈ [k, m.te, m.di, m.id, m.lsn, m.low], x < U64 := by
    intro x hx
    simp only [List.mem_cons, List.not_mem_nil, or_false] at hx
    have h1 := hm.te; have h2 := hm.di; have h3 := hm.id; have h4 := hm.lsn; have h5 := hm.low
    rcases hx with rfl | rfl | rfl | rfl | rfl | rfl
    · unfold U64; omega
    all_goals assumption
  have HXl := Lib.hid (show [k, m.te, m.di, m.id, m.lsn, m.low].length = 6 from rfl)
  have HT6 := Lib.hid (show numsBytes [k, m.te, m.di, m.id, m.lsn, m.low] = Wire.putNum m.kind.toNat ++ (Wire.putNum m.te ++ (Wire.putNum m.di ++ (Wire.putNum m.id ++ (Wire.putNum m.lsn ++ Wire.putNum m.low)))) by
    rw [HKK.out]; simp [numsBytes])
  generalize [k, m.te, m.di, m.id, m.lsn, m.low] = xs at *
  go_wp2_with fail
  go_loopw [6, 7] (fun s6 s7 wr => ∃ i : Nat, i ≤ 6 ∧ s7 = .int .i64 i ∧ s6 = .string ⟨(numsBytes (xs.take i)).toArray⟩ ∧ Below w3.heap.size w3 wr) (fun _ s7 _ => 6 - (intOf s7).toNat)
  case atStart => exact ⟨0, by omega, rfl, rfl, Below.refl _ _⟩
  case round =>
    obtain ⟨i, hi, rfl, rfl, hbr⟩ := hrel
    by_cases hlt : i < 6
    · have hXr := Blk.on hX hbr
      have hil : i < xs.length := by rw [HXl.out]; exact hlt
      obtain ⟨x, hx⟩ : ∃ x, xs[i]? = some x := ⟨_, List.getElem?_eq_getElem hil⟩
      have hxu := hxs x (List.mem_of_getElem? hx)
      have g0 : wr.cell? ⟨A, i, none⟩ = some (.int .u64 x) := by rw [hXr.cell, List.getElem?_map, hx]; rfl
      have hb := numsBytes_len (xs.take i)
      have ht : (xs.take i).length ≤ i := List.length_take_le _ _
      have HN := Lib.hid (show numsBytes (xs.take i) ++ Wire.putNum x = numsBytes (xs.take (i + 1)) by
        rw [List.take_add_one, hx, Option.toList_some, numsBytes_snoc])
      have hlen : (numsBytes (xs.take i)).length ≤ 60 := by omega
      clear hx hb ht hXr hxs
      generalize numsBytes (xs.take i) = T at *
      go_wp2_with fail
      refine (qputNum_any T x wr (by omega) hxu).mono ?_
      rintro e w4 ⟨rfl, hb4⟩
      go_wp2_with fail
      go_roundw
      case rel => exact ⟨i + 1, by omega, by go_num, by rw [← HN.out], hbr.on hb4⟩
      case measure => simp [intOf]; omega
    · have hge : 6 ≤ i := by omega
      have HX := Lib.hid (show xs.take i = xs from List.take_of_length_le (by rw [HXl.out]; omega))
      have hB4 : MsgAt wr w.heap.size m a n c := Blk.on hB3 hbr
      have hbb4 := hbb3.on hbr
      have hT6 := numsBytes_len xs
      rw [HXl.out] at hT6
      rw [HX.out]
      clear hX hB3 hbb3 hbr hxs HX hlt
      generalize numsBytes xs = T at *
      have hmlt := hB4.lt
      have hkl := HF.out.key
      have hhl := HF.out.hi
      have hvl := HF.out.val
      have P10 : ∀ n, (Wire.putNum n).length ≤ 10 := fun n => (Wire.put_length 9 n).2
      have PT : ∀ l : List UInt8, (Wire.putText l).length ≤ 10 + l.length := fun l => by
        have := P10 l.length
        unfold Wire.putText; rw [List.length_append]; omega
      have HP10 := Lib.hid P10
      have HPT := Lib.hid PT
      clear P10 PT
      have HC := Lib.hid (show ∀ w', Below wr.heap.size wr w' → w'.cell? ⟨w.heap.size, 6, none⟩ = some (.string ⟨m.key.toArray⟩) ∧ w'.cell? ⟨w.heap.size, 7, none⟩ = some (.string ⟨m.hi.toArray⟩) ∧ w'.cell? ⟨w.heap.size, 8, none⟩ = some (.bool m.del) ∧ w'.cell? ⟨w.heap.size, 9, none⟩ = some (.bool m.found) ∧ w'.cell? ⟨w.heap.size, 10, none⟩ = some (.string ⟨m.val.toArray⟩) ∧ w'.cell? ⟨w.heap.size, 11, none⟩ = some (.slice a n c) ∧ w'.cell? ⟨w.heap.size, 12, none⟩ = some (.int .i64 m.err) from fun w' hb => by
        have h1 : MsgAt w' w.heap.size m a n c := Blk.on hB4 hb
        exact h1.cells.2.2.2.2.2.2)
      obtain ⟨T1, hT1⟩ : ∃ T1, T1 = T ++ Wire.putText m.key := ⟨_, rfl⟩
      obtain ⟨T2, hT2⟩ : ∃ T2, T2 = T1 ++ Wire.putText m.hi := ⟨_, rfl⟩
      obtain ⟨T3, hT3⟩ : ∃ T3, T3 = T2 ++ Wire.putNum (bitM m.del) := ⟨_, rfl⟩
      obtain ⟨T4, hT4⟩ : ∃ T4, T4 = T3 ++ Wire.putNum (bitM m.found) := ⟨_, rfl⟩
      obtain ⟨T5, hT5⟩ : ∃ T5, T5 = T4 ++ Wire.putText m.val := ⟨_, rfl⟩
      obtain ⟨T7, hT7⟩ : ∃ T7, T7 = T5 ++ Wire.putNum n := ⟨_, rfl⟩
      have q1 : T1.length ≤ 90 := by rw [hT1, List.length_append]; have := HPT.out m.key; omega
      have q2 : T2.length ≤ 120 := by rw [hT2, List.length_append]; have := HPT.out m.hi; omega
      have q3 : T3.length ≤ 130 := by rw [hT3, List.length_append]; have := HP10.out (bitM m.del); omega
      have q4 : T4.length ≤ 140 := by rw [hT4, List.length_append]; have := HP10.out (bitM m.found); omega
      have q5 : T5.length ≤ 180 := by rw [hT5, List.length_append]; have := HPT.out m.val; omega
      have q7 : T7.length ≤ 200 := by rw [hT7, List.length_append]; have := HP10.out n; omega
      have hn500 : n ≤ 500 := by have := HF.out.len; rw [HL.out] at this; exact this
      have HP1 := Lib.hid (show ∀ (wa : World), Below wr.heap.size wr wa → Calls Try.prog 24 #[.string ⟨T.toArray⟩, .string ⟨m.key.toArray⟩] wa fun e w' => e = .returned (.string ⟨T1.toArray⟩) ∧ Below wr.heap.size wr w' from
        fun wa hb => (qputText_any T m.key wa (by omega)).mono fun e w' ⟨he, hw⟩ => ⟨by rw [hT1]; exact he, hb.on hw⟩)
      have HP2 := Lib.hid (show ∀ (wa : World), Below wr.heap.size wr wa → Calls Try.prog 24 #[.string ⟨T1.toArray⟩, .string ⟨m.hi.toArray⟩] wa fun e w' => e = .returned (.string ⟨T2.toArray⟩) ∧ Below wr.heap.size wr w' from
        fun wa hb => (qputText_any T1 m.hi wa (by omega)).mono fun e w' ⟨he, hw⟩ => ⟨by rw [hT2]; exact he, hb.on hw⟩)
      have HP3 := Lib.hid (show ∀ (wa : World), Below wr.heap.size wr wa → Calls Try.prog 23 #[.string ⟨T2.toArray⟩, .int .u64 (bitM m.del)] wa fun e w' => e = .returned (.string ⟨T3.toArray⟩) ∧ Below wr.heap.size wr w' from
        fun wa hb => (qputNum_any T2 (bitM m.del) wa (by omega) (by have := bitM_lt m.del; unfold U64; omega)).mono fun e w' ⟨he, hw⟩ => ⟨by rw [hT3]; exact he, hb.on hw⟩)
      have HP4 := Lib.hid (show ∀ (wa : World), Below wr.heap.size wr wa → Calls Try.prog 23 #[.string ⟨T3.toArray⟩, .int .u64 (bitM m.found)] wa fun e w' => e = .returned (.string ⟨T4.toArray⟩) ∧ Below wr.heap.size wr w' from
        fun wa hb => (qputNum_any T3 (bitM m.found) wa (by omega) (by have := bitM_lt m.found; unfold U64; omega)).mono fun e w' ⟨he, hw⟩ => ⟨by rw [hT4]; exact he, hb.on hw⟩)
      have HP5 := Lib.hid (show ∀ (wa : World), Below wr.heap.size wr wa → Calls Try.prog 24 #[.string ⟨T4.toArray⟩, .string ⟨m.val.toArray⟩] wa fun e w' => e = .returned (.string ⟨T5.toArray⟩) ∧ Below wr.heap.size wr w' from
        fun wa hb => (qputText_any T4 m.val wa (by omega)).mono fun e w' ⟨he, hw⟩ => ⟨by rw [hT5]; exact he, hb.on hw⟩)
      have HP7 := Lib.hid (show ∀ (wa : World), Below wr.heap.size wr wa → Calls Try.prog 23 #[.string ⟨T5.toArray⟩, .int .u64 (n : Int)] wa fun e w' => e = .returned (.string ⟨T7.toArray⟩) ∧ Below wr.heap.size wr w' from
        fun wa hb => (qputNum_any T5 n wa (by omega) (by unfold U64; omega)).mono fun e w' ⟨he, hw⟩ => ⟨by rw [hT7]; exact he, hb.on hw⟩)
      have HBd := Lib.hid (rbit_calls m.del wr)
      have HBf := Lib.hid (rbit_calls m.found wr)
      have HT7 := Lib.hid (show T7 = Wire.putNum m.kind.toNat ++ (Wire.putNum m.te ++ (Wire.putNum m.di ++ (Wire.putNum m.id ++ (Wire.putNum m.lsn ++ (Wire.putNum m.low ++ (Wire.putText m.key ++ (Wire.putText m.hi ++ (Wire.putNum (bitM m.del) ++ (Wire.putNum (bitM m.found) ++ (Wire.putText m.val ++ Wire.putNum n)))))))))) by
        rw [hT7, hT5, hT4, hT3, hT2, hT1, HT6.out]; simp)
      have hwn : IntKind.u64.wrap (n : Int) = (n : Int) := by rw [IntKind.wrap_u64]; omega
      clear hT1 hT2 hT3 hT4 hT5 hT7 HT6
      go_upto_region 10 with fail
      refine wp_region_settle (Below wr.heap.size wr) (by kernel_rfl) (by kernel_rfl) (by kernel_rfl) (below_drew (Below.refl _ _)) ?_
      repeat (first
        | (refine settled_not ?_ ?_
           · rfl
           simp only [Act.put, List.setIfInBounds_toArray, List.set_cons_zero, List.set_cons_succ])
        | (refine settled_val (v := ?_) ?_ (fun w' hS => ?_) ?_
           rotate_left
           · rfl
           · obtain ⟨k6, k7, k8, k9, k10, k11, k12⟩ := HC.out w' hS
             go_simp
             with_reducible rfl
           simp only [Act.put, List.setIfInBounds_toArray, List.set_cons_zero, List.set_cons_succ])
        | (refine settled_call (f := 24) (v := .string ⟨T1.toArray⟩) ?_ (fun w' hS => ?_) (fun w' hS => HP1.out w' hS) ?_
           · rfl
           · go_simp
           simp only [Act.put, List.setIfInBounds_toArray, List.set_cons_zero, List.set_cons_succ])
        | (refine settled_call (f := 24) (v := .string ⟨T2.toArray⟩) ?_ (fun w' hS => ?_) (fun w' hS => HP2.out w' hS) ?_
           · rfl
           · go_simp
           simp only [Act.put, List.setIfInBounds_toArray, List.set_cons_zero, List.set_cons_succ]))
      refine settled_nil (fun wx hSx => ?_)
      go_upto_region 11 with fail
      refine wp_region_settle (Below wr.heap.size wr) (by kernel_rfl) (by kernel_rfl) (by kernel_rfl) (below_drew hSx) ?_
      repeat (first
        | (refine settled_not ?_ ?_
           · rfl
           simp only [Act.put, List.setIfInBounds_toArray, List.set_cons_zero, List.set_cons_succ])
        | (refine settled_val (v := ?_) ?_ (fun w' hS => ?_) ?_
           rotate_left
           · rfl
           · obtain ⟨k6, k7, k8, k9, k10, k11, k12⟩ := HC.out w' hS
             go_simp
             with_reducible rfl
           simp only [Act.put, List.setIfInBounds_toArray, List.set_cons_zero, List.set_cons_succ])
        | (refine settled_call (f := 25) (v := .int .u64 (bitM m.del)) ?_ (fun w' hS => ?_) (fun w' hS => HBd.out w' hS) ?_
           · rfl
           · go_simp
           simp only [Act.put, List.setIfInBounds_toArray, List.set_cons_zero, List.set_cons_succ])
        | (refine settled_call (f := 25) (v := .int .u64 (bitM m.found)) ?_ (fun w' hS => ?_) (fun w' hS => HBf.out w' hS) ?_
           · rfl
           · go_simp
           simp only [Act.put, List.setIfInBounds_toArray, List.set_cons_zero, List.set_cons_succ])
        | (refine settled_call (f := 23) (v := .string ⟨T3.toArray⟩) ?_ (fun w' hS => ?_) (fun w' hS => HP3.out w' hS) ?_
           · rfl
           · go_simp
           simp only [Act.put, List.setIfInBounds_toArray, List.set_cons_zero, List.set_cons_succ])
        | (refine settled_call (f := 23) (v := .string ⟨T4.toArray⟩) ?_ (fun w' hS => ?_) (fun w' hS => HP4.out w' hS) ?_
           · rfl
           · go_simp
           simp only [Act.put, List.setIfInBounds_toArray, List.set_cons_zero, List.set_cons_succ]))
      refine settled_nil (fun wy hSy => ?_)
      clear hSx wx
      go_upto_region 12 with fail
      refine wp_region_settle (Below wr.heap.size wr) (by kernel_rfl) (by kernel_rfl) (by kernel_rfl) (below_drew hSy) ?_
      repeat (first
        | (refine settled_not ?_ ?_
           · rfl
           simp only [Act.put, List.setIfInBounds_toArray, List.set_cons_zero, List.set_cons_succ])
        | (refine settled_val (v := ?_) ?_ (fun w' hS => ?_) ?_
           rotate_left
           · rfl
           · obtain ⟨k6, k7, k8, k9, k10, k11, k12⟩ := HC.out w' hS
             go_simp
             with_reducible rfl
           simp only [Act.put, List.setIfInBounds_toArray, List.set_cons_zero, List.set_cons_succ])
        | (refine settled_call (f := 24) (v := .string ⟨T5.toArray⟩) ?_ (fun w' hS => ?_) (fun w' hS => HP5.out w' hS) ?_
           · rfl
           · go_simp
           simp only [Act.put, List.setIfInBounds_toArray, List.set_cons_zero, List.set_cons_succ])
        | (refine settled_call (f := 23) (v := .string ⟨T7.toArray⟩) ?_ (fun w' hS => ?_) (fun w' hS => HP7.out w' hS) ?_
           · rfl
           · go_simp
           simp only [Act.put, List.setIfInBounds_toArray, List.set_cons_zero, List.set_cons_succ]))
      refine settled_nil (fun wz hSz => ?_)
      clear hSy wy HP1 HP2 HP3 HP4 HP5 HP7 HBd HBf HC q1 q2 q3 q4 q5
      have hB5 : MsgAt wz w.heap.size m a n c := Blk.on hB4 hSz
      have hbb5 := hbb4.on hSz
      clear hB4 hbb4 hSz hmlt
      go_wp2_with fail
      go_loopw [6, 8] (fun s6 s8 wr => ∃ i : Nat, i ≤ n ∧ s8 = .int .i64 i ∧ s6 = .string ⟨(T7 ++ recsBytes (m.recs.take i)).toArray⟩ ∧ Below wz.heap.size wz wr) (fun _ s8 _ => n - (intOf s8).toNat)
      case atStart => exact ⟨0, by omega, rfl, by simp [recsBytes], Below.refl _ _⟩
      case round =>
        obtain ⟨i, hi, rfl, rfl, hbr⟩ := hrel
        have hBr : MsgAt wr w.heap.size m a n c := Blk.on hB5 hbr
        have hbbr := hbb5.on hbr
        have hlen := recsBytes_len (m.recs.take i) (fun r hr => HF.out.small r (List.mem_of_mem_take hr))
        have htl : (m.recs.take i).length ≤ i := List.length_take_le _ _
        by_cases hlt : i < n
        · obtain ⟨x, g, o, hx, hmx, rfl, d0, d1, d2, d3⟩ := h.row hbbr hlt
          obtain ⟨hk16, hv24, hlx⟩ := HF.out.rec_ x hmx
          have hg : g < wr.heap.size := by
            obtain ⟨g', o', e, hg, _⟩ := (h.on hbbr).at_ (by omega)
            cases e
            exact hg
          have HN := Lib.hid (show T7 ++ recsBytes (m.recs.take i) ++ recBytes x = T7 ++ recsBytes (m.recs.take (i + 1)) by
            rw [List.take_add_one, hx, Option.toList_some, recsBytes_snoc, List.append_assoc])
          have hlenT : (T7 ++ recsBytes (m.recs.take i)).length ≤ 40000 := by rw [List.length_append]; omega
          clear hx hmx hlen htl
          generalize T7 ++ recsBytes (m.recs.take i) = U at *
          have HC := Lib.hid (show ∀ w', Below wr.heap.size wr w' → w'.cell? ⟨w.heap.size, 11, none⟩ = some (.slice (some ⟨g, o, none⟩) n c) ∧ w'.cell? ⟨g, o + i * 4, none⟩ = some (.string ⟨x.key.toArray⟩) ∧ w'.cell? ⟨g, o + i * 4 + 1, none⟩ = some (.int .u64 x.lsn) ∧ w'.cell? ⟨g, o + i * 4 + 3, none⟩ = some (.string ⟨x.val.toArray⟩) from fun w' hb => by
            have h1 : MsgAt w' w.heap.size m (some ⟨g, o, none⟩) n c := Blk.on hBr hb
            exact ⟨h1.cells.2.2.2.2.2.2.2.2.2.2.2.1, (hb.cell (p := ⟨g, o + i * 4, none⟩) hg).trans d0, (hb.cell (p := ⟨g, o + i * 4 + 1, none⟩) hg).trans d1, (hb.cell (p := ⟨g, o + i * 4 + 3, none⟩) hg).trans d3⟩)
          obtain ⟨g11, _, _, g3⟩ := HC.out wr (Below.refl _ _)
          obtain ⟨U1, hU1⟩ : ∃ U1, U1 = U ++ Wire.putText x.key := ⟨_, rfl⟩
          obtain ⟨U2, hU2⟩ : ∃ U2, U2 = U1 ++ Wire.putNum x.lsn := ⟨_, rfl⟩
          have r1 : U1.length ≤ 41000 := by rw [hU1, List.length_append]; have := HPT.out x.key; omega
          have r2 : U2.length ≤ 42000 := by rw [hU2, List.length_append]; have := HP10.out x.lsn; omega
          have HP1 := Lib.hid (show ∀ (wa : World), Below wr.heap.size wr wa → Calls Try.prog 24 #[.string ⟨U.toArray⟩, .string ⟨x.key.toArray⟩] wa fun e w' => e = .returned (.string ⟨U1.toArray⟩) ∧ Below wr.heap.size wr w' from
            fun wa hb => (qputText_any U x.key wa (by omega)).mono fun e w' ⟨he, hw⟩ => ⟨by rw [hU1]; exact he, hb.on hw⟩)
          have HP2 := Lib.hid (show ∀ (wa : World), Below wr.heap.size wr wa → Calls Try.prog 23 #[.string ⟨U1.toArray⟩, .int .u64 x.lsn] wa fun e w' => e = .returned (.string ⟨U2.toArray⟩) ∧ Below wr.heap.size wr w' from
            fun wa hb => (qputNum_any U1 x.lsn wa (by omega) (by unfold U64; omega)).mono fun e w' ⟨he, hw⟩ => ⟨by rw [hU2]; exact he, hb.on hw⟩)
          have HN2 := Lib.hid (show U2 ++ Wire.putText x.val = T7 ++ recsBytes (m.recs.take (i + 1)) by rw [← HN.out, hU2, hU1]; unfold recBytes; simp)
          clear hU1 hU2 HN d0 d1 d2 d3 hBr
          go_upto_region 16 with fail
          refine wp_region_settle (Below wr.heap.size wr) (by kernel_rfl) (by kernel_rfl) (by kernel_rfl) (below_drew (Below.refl _ _)) ?_
          repeat (first
            | (refine settled_not ?_ ?_
               · rfl
               simp only [Act.put, List.setIfInBounds_toArray, List.set_cons_zero, List.set_cons_succ])
            | (refine settled_val (v := ?_) ?_ (fun w' hS => ?_) ?_
               rotate_left
               · rfl
               · obtain ⟨k0, k1, k2, k3⟩ := HC.out w' hS
                 go_simp
                 with_reducible rfl
               simp only [Act.put, List.setIfInBounds_toArray, List.set_cons_zero, List.set_cons_succ])
            | (refine settled_call (f := 24) (v := .string ⟨U1.toArray⟩) ?_ (fun w' hS => ?_) (fun w' hS => HP1.out w' hS) ?_
               · rfl
               · go_simp
               simp only [Act.put, List.setIfInBounds_toArray, List.set_cons_zero, List.set_cons_succ])
            | (refine settled_call (f := 23) (v := .string ⟨U2.toArray⟩) ?_ (fun w' hS => ?_) (fun w' hS => HP2.out w' hS) ?_
               · rfl
               · go_simp
               simp only [Act.put, List.setIfInBounds_toArray, List.set_cons_zero, List.set_cons_succ]))
          refine settled_nil (fun wx hSx => ?_)
          clear g11 g3
          obtain ⟨g11, _, _, g3⟩ := HC.out wx hSx
          go_wp2_with fail
          refine (qputText_any U2 x.val wx (by omega)).mono ?_
          rintro e wy ⟨rfl, hby⟩
          go_wp2_with fail
          go_roundw
          case rel => exact ⟨i + 1, by omega, by go_num, by rw [← HN2.out], (hbr.on hSx).on hby⟩
          case measure => simp [intOf]; omega
        · have hni : n ≤ i := by omega
          have HX := Lib.hid (show m.recs.take i = m.recs from List.take_of_length_le (by rw [HL.out]; omega))
          have hE := HF.out.err
          rw [HX.out] at hlen ⊢
          have hle : (T7 ++ recsBytes m.recs).length ≤ 40000 := by rw [List.length_append]; rw [HL.out] at hlen; omega
          have HT11 := Lib.hid (show T7 ++ recsBytes m.recs ++ Wire.putNum m.err.toNat = bodyM m by
            unfold bodyM
            rw [HT7.out, HL.out]; simp)
          clear htl hlen HX HT7 q7
          generalize T7 ++ recsBytes m.recs = T9 at *
          obtain ⟨c0, c1, c2, c3, c4, c5, c6, c7, c8, c9, c10, c11, c12⟩ := hBr.cells
          clear c0 c1 c2 c3 c4 c5 c6 c7 c8 c9 c10
          obtain ⟨ee, hee⟩ : ∃ ee : Nat, m.err = ee := ⟨m.err.toNat, by omega⟩
          have heb : ee ≤ 7 := by omega
          have hwe : IntKind.u64.wrap (ee : Int) = (ee : Int) := by rw [IntKind.wrap_u64]; omega
          have HT12 := Lib.hid (show T9 ++ Wire.putNum ee = bodyM m by rw [← HT11.out, hee]; simp)
          have hl12 : (bodyM m).length ≤ 50000 := by rw [← HT12.out, List.length_append]; have := HP10.out ee; omega
          rw [hee] at c12
          clear hee hE HT11
          go_wp2_with fail
          refine (qputNum_any T9 ee wr (by omega) (by unfold U64; omega)).mono ?_
          rw [HT12.out]
          rintro e wx ⟨rfl, hbx⟩
          have hbbx := hbbr.on hbx
          clear c11 c12
          go_wp2_with fail
          refine (refSeal_any (bodyM m) wx (by unfold maxLen; omega)).mono ?_
          rintro e wy ⟨rfl, hby⟩
          go_wp2_with fail
          go_ret2
          rw [HE.out, HZ.out]
          exact ⟨rfl, hbbx.on hby⟩
end Go.Proofs.Ytnijijcbdajodaa
