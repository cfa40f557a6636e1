/-
  The walks of package wire's texts and reader. Condition: texts are shorter than 2^47.
-/
import Derived.Test.YtnijijcbdajodaaWireW
import Derived.BigQuiet
import Derived.Deep.QuietTactic
namespace Go.Proofs.Ytnijijcbdajodaa
set_option linter.unusedVariables false
set_option linter.unusedSimpArgs false
open Go.RowKit

def maxText : Nat := 140737488355328

set_option maxHeartbeats 400000 in
theorem putText_any (l t : List UInt8) (w : World) (hs : l.length + t.length ≤ 140737488355000) :
    Calls Try.prog 21 #[.string ⟨l.toArray⟩, .string ⟨t.toArray⟩] w fun e w' => e = .returned (.string ⟨(l ++ Wire.putText t).toArray⟩) ∧ Below w.heap.size w w' := by
  have hp := Wire.put_length 9 t.length
  go_enter Try.func21, Try.ntmps21
  go_wp2_with fail
  refine (putNum_any l t.length _ (by omega) (by unfold U64; omega)).mono ?_
  rintro e w1 ⟨rfl, hb⟩
  have hl : (l ++ Wire.putNum t.length).length ≤ l.length + 10 := by rw [List.length_append]; unfold Wire.putNum; omega
  generalize hq : l ++ Wire.putNum t.length = q at *
  have HQ := Lib.hid hq
  clear hq
  go_wp2_with fail
  go_ret
  refine ⟨?_, hb⟩
  unfold Wire.putText
  rw [← List.append_assoc, HQ.out]
  rfl

/-- A reader's cells. -/
def rdV : Wire.Rd → List Value
  | none => [.string ⟨[].toArray⟩, .bool true]
  | some l => [.string ⟨l.toArray⟩, .bool false]
/-- A reader at a block. -/
def RdAt (w : World) (b : Nat) (r : Wire.Rd) : Prop := Blk w b (rdV r) 94

set_option maxHeartbeats 400000 in
theorem newReader_any (l : List UInt8) (w : World) :
    Calls Try.prog 75 #[.string ⟨l.toArray⟩] w fun e w' => e = .returned (.pointer (some ⟨w.heap.size, 0, none⟩)) ∧ RdAt w' w.heap.size (some l) ∧ Below w.heap.size w w' := by
  go_enter Try.func75, Try.ntmps75
  go_wp2_with fail
  go_ret
  exact ⟨rfl, Blk.new _ _ _, (Below.refl _ _).alloc (Nat.le_refl _) _⟩

set_option maxHeartbeats 400000 in
theorem fail_any (b : Nat) (r : Wire.Rd) (w : World) (h : RdAt w b r) :
    Calls Try.prog 92 #[.pointer (some ⟨b, 0, none⟩)] w fun e w' => e = .returned (.tuple #[]) ∧ RdAt w' b none ∧ Mod [b] w w' := by
  obtain ⟨s, bad, hr⟩ : ∃ s bad, rdV r = [.string s, .bool bad] := by cases r <;> exact ⟨_, _, rfl⟩
  have h0 : w.cell? ⟨b, 0, none⟩ = some (.string s) := by rw [h.cell, hr]; rfl
  have h1 : w.cell? ⟨b, 1, none⟩ = some (.bool bad) := by rw [h.cell, hr]; rfl
  have f0 := h.free 0
  have f1 := h.free 1
  go_enter Try.func92, Try.ntmps92
  go_wp2_with fail
  go_end0
  have h2 := (h.set 0 (.string ⟨[].toArray⟩)).set 1 (.bool true)
  rw [hr] at h2
  exact ⟨rfl, h2, ((Mod.refl _ _).setCell _ _ (.inl (by simp))).setCell _ _ (.inl (by simp))⟩

set_option maxHeartbeats 400000 in
theorem ok_any (b : Nat) (r : Wire.Rd) (w : World) (h : RdAt w b r) :
    Calls Try.prog 90 #[.pointer (some ⟨b, 0, none⟩)] w fun e w' => e = .returned (.bool r.isSome) ∧ w = w' := by
  have h1 : w.cell? ⟨b, 1, none⟩ = some (.bool !r.isSome) := by rw [h.cell]; cases r <;> rfl
  go_enter Try.func90, Try.ntmps90
  go_wp2_with fail
  go_ret
  exact ⟨rfl, rfl⟩

theorem ret_bool {a b : Bool} (h : a = b) : Ending.returned (.bool a) = .returned (.bool b) := by rw [h]
theorem odd_nat (i : Nat) (c : UInt8) : Wire.odd i c = ((decide (0 < i) && c.toNat == 0) || (i == 9 && decide (1 < c.toNat))) := by
  unfold Wire.odd
  congr 2
  rw [Bool.eq_iff_iff, beq_iff_eq, beq_iff_eq, ← UInt8.toNat_inj]; rfl
set_option maxHeartbeats 400000 in
theorem odd_any (i : Nat) (c : UInt8) (w : World) (hi : i ≤ 9) :
    Calls Try.prog 91 #[.int .i64 i, .int .u8 c.toNat] w fun e w' => e = .returned (.bool (Wire.odd i c)) ∧ w = w' := by
  go_enter Try.func91, Try.ntmps91
  go_wp2_with fail
  all_goals go_ret
  all_goals refine ⟨ret_bool ?_, rfl⟩
  all_goals rw [odd_nat, Bool.eq_iff_iff]
  all_goals simp
  all_goals omega

/-- What a reader's number is told behind i digits. -/
structure NumTo (l : List UInt8) (i n : Nat) : Prop where
  le : i ≤ 10
  len : i ≤ l.length
  lt : n < 128 ^ i
  eq : Wire.takeNum l = Wire.num i n (l.drop i)
theorem NumTo.start (l : List UInt8) : NumTo l 0 0 := ⟨by omega, by omega, by simp, rfl⟩
theorem num_digit (i n : Nat) (c : UInt8) (l : List UInt8) (hi : i < 10) : Wire.num i n (c :: l) = if Wire.odd i c then none else if c.toNat < 128 then some (n + c.toNat * 128 ^ i, l) else Wire.num (i + 1) (n + (c.toNat - 128) * 128 ^ i) l := by
  rw [Wire.num, if_neg (by omega)]
theorem NumTo.odd {l : List UInt8} {i n : Nat} (h : NumTo l i n) (hi : i < 10) (hl : i < l.length) (ho : Wire.odd i l[i] = true) : Wire.takeNum l = none := by
  rw [h.eq, List.drop_eq_getElem_cons hl, num_digit _ _ _ _ hi, if_pos ho]
theorem NumTo.last {l : List UInt8} {i n : Nat} (h : NumTo l i n) (hi : i < 10) (hl : i < l.length) (ho : Wire.odd i l[i] = false) (hc : l[i].toNat < 128) :
    Wire.takeNum l = some (n + l[i].toNat * 128 ^ i, l.drop (i + 1)) := by
  rw [h.eq, List.drop_eq_getElem_cons hl, num_digit _ _ _ _ hi, ho, if_neg (by simp), if_pos hc]
theorem NumTo.next {l : List UInt8} {i n : Nat} (h : NumTo l i n) (hi : i < 10) (hl : i < l.length) (ho : Wire.odd i l[i] = false) (hc : ¬ l[i].toNat < 128) :
    NumTo l (i + 1) (n + (l[i].toNat - 128) * 128 ^ i) := by
  have hlt := l[i].toNat_lt
  refine ⟨by omega, by omega, ?_, ?_⟩
  · have h1 : (l[i].toNat - 128) * 128 ^ i ≤ 127 * 128 ^ i := Nat.mul_le_mul_right _ (by omega)
    have := h.lt
    rw [Wire.pow128]; omega
  · rw [h.eq, List.drop_eq_getElem_cons hl, num_digit _ _ _ _ hi, ho, if_neg (by simp), if_neg hc]
theorem NumTo.none_end {l : List UInt8} {i n : Nat} (h : NumTo l i n) (he : i = min l.length 10) : Wire.takeNum l = none := by
  rw [h.eq]
  rcases Nat.lt_or_ge i l.length with hl | hl
  · have : i = 10 := by omega
    subst this
    rw [List.drop_eq_getElem_cons hl, Wire.num, if_pos (by omega)]
  · rw [List.drop_of_length_le hl]; rfl

theorem pow_7 (i : Nat) : (2 : Nat) ^ (7 * i) = 128 ^ i := by rw [Nat.pow_mul]
theorem or_place (i n m : Nat) (hn : n < 128 ^ i) : n ||| m * 128 ^ i = n + m * 128 ^ i := by
  have h := Nat.two_pow_add_eq_or_of_lt (i := 7 * i) (b := n) (by rw [pow_7]; exact hn) m
  rw [pow_7] at h
  rw [Nat.or_comm, Nat.mul_comm m, ← h, Nat.add_comm]
theorem place_lt (i : Nat) (c : UInt8) (m : Nat) (hi : i ≤ 9) (hm : m < 128) (hmc : m ≤ c.toNat) (ho : Wire.odd i c = false) : m * 128 ^ i < 18446744073709551616 := by
  rcases Nat.lt_or_ge i 9 with h | h
  · have h1 : m * 128 ^ i ≤ 127 * 128 ^ i := Nat.mul_le_mul_right _ (by omega)
    have h2 : 128 ^ i ≤ 128 ^ 8 := Nat.pow_le_pow_right (by omega) (by omega)
    have e8 : (128 : Nat) ^ 8 = 72057594037927936 := by decide
    omega
  · obtain rfl : i = 9 := by omega
    have e9 : (128 : Nat) ^ 9 = 9223372036854775808 := by decide
    rw [odd_nat] at ho
    simp at ho
    rw [e9]
    omega
theorem dig_last (i n : Nat) (c : UInt8) (hn : n < 128 ^ i) (hi : i ≤ 9) (hc : c.toNat < 128) (ho : Wire.odd i c = false) :
    bits BinOp.or .u64 (n : Int) (IntKind.u64.wrap ((c.toNat : Int) * 2 ^ (7 * i))) = ((n + c.toNat * 128 ^ i : Nat) : Int) := by
  have h1 := place_lt i c c.toNat hi hc (Nat.le_refl _) ho
  have h2 : 128 ^ i ≤ 128 ^ 9 := Nat.pow_le_pow_right (by omega) hi
  have e9 : (128 : Nat) ^ 9 = 9223372036854775808 := by decide
  have e : ((c.toNat : Int) * 2 ^ (7 * i)) = ((c.toNat * 128 ^ i : Nat) : Int) := by
    rw [← pow_7]; simp
  rw [e, IntKind.wrap_u64]
  generalize hx : c.toNat * 128 ^ i = x at *
  rw [show ((x : Int) % 18446744073709551616) = (x : Int) from by omega, u64_or_nat _ _ (by omega) (by omega), ← hx, or_place i n _ hn]
set_option maxRecDepth 100000 in
theorem dig_next (i n : Nat) (c : UInt8) (hn : n < 128 ^ i) (hi : i ≤ 9) (hc : 128 ≤ c.toNat) (ho : Wire.odd i c = false) :
    bits BinOp.or .u64 (n : Int) (IntKind.u64.wrap (IntKind.u64.wrap (bits BinOp.andNot .u8 (c.toNat : Int) 128) * 2 ^ (7 * i))) = ((n + (c.toNat - 128) * 128 ^ i : Nat) : Int) := by
  have hlt := c.toNat_lt
  have h1 := place_lt i c (c.toNat - 128) hi (by omega) (by omega) ho
  have h2 : 128 ^ i ≤ 128 ^ 9 := Nat.pow_le_pow_right (by omega) hi
  have e9 : (128 : Nat) ^ 9 = 9223372036854775808 := by decide
  have ea : bits BinOp.andNot .u8 (c.toNat : Int) 128 = ((c.toNat - 128 : Nat) : Int) := by
    have h := u8_andNot_nat c.toNat 128 hlt (by omega)
    rw [show ((128 : Nat) : Int) = 128 from rfl] at h
    rw [h]
    congr 1
    have : ∀ x : Fin 256, 128 ≤ x.val → x.val &&& (255 - 128) = x.val - 128 := by decide +kernel
    have h7 := this ⟨c.toNat, hlt⟩ hc
    exact h7
  rw [ea, IntKind.wrap_u64, IntKind.wrap_u64]
  rw [show (((c.toNat - 128 : Nat) : Int) % 18446744073709551616) = ((c.toNat - 128 : Nat) : Int) from by omega]
  have e : (((c.toNat - 128 : Nat) : Int) * 2 ^ (7 * i)) = (((c.toNat - 128) * 128 ^ i : Nat) : Int) := by
    rw [← pow_7]; simp
  rw [e]
  generalize hx : (c.toNat - 128) * 128 ^ i = x at *
  rw [show ((x : Int) % 18446744073709551616) = (x : Int) from by omega, u64_or_nat _ _ (by omega) (by omega), ← hx, or_place i n _ hn]

set_option maxRecDepth 100000 in
set_option maxHeartbeats 1000000 in
theorem num_any (b : Nat) (l : List UInt8) (w : World) (hR : RdAt w b (some l)) (hl : l.length ≤ 140737488355328) :
    Calls Try.prog 77 #[.pointer (some ⟨b, 0, none⟩)] w fun e w' => e = .returned (.int .u64 (Wire.rNum (some l)).1) ∧ RdAt w' b (Wire.rNum (some l)).2 ∧ Mod [b] w w' := by
  have h0 : w.cell? ⟨b, 0, none⟩ = some (.string ⟨l.toArray⟩) := by rw [hR.cell]; rfl
  have f0 := hR.free 0
  go_enter Try.func77, Try.ntmps77
  go_wp2_with fail
  go_step3
  go_wp2_with fail
  try go_step3
  go_wp2_with fail
  refine (ok_any b (some l) _ hR).mono ?_
  rintro e w1 ⟨rfl, rfl⟩
  go_wp2_with fail
  go_step3
  go_wp2_with fail
  all_goals
    generalize hN : min l.length 10 = N at *
    go_loop [3, 16] (fun s3 s16 => ∃ i n : Nat, s3 = .int .u64 n ∧ s16 = .int .i64 i ∧ NumTo l i n ∧ i ≤ min l.length 10) (fun _ s16 => 10 - (intOf s16).toNat)
    case atStart => exact ⟨0, 0, rfl, rfl, NumTo.start l, Nat.zero_le _⟩
    case round =>
      obtain ⟨i, n, rfl, rfl, hn, hiN⟩ := hrel
      by_cases hlt : i < min l.length 10
      · have hi : i < l.length := by omega
        have hi9 : i ≤ 9 := by omega
        have hget : (ByteArray.mk l.toArray)[i]'(by simpa [ByteArray.size] using hi) = l[i] := rfl
        by_cases ho : Wire.odd i l[i] = true
        · have HO := Lib.hid (hn.odd (by omega) hi ho)
          go_wp2_with fail
          refine (odd_any i l[i] _ hi9).mono ?_
          rw [ho]
          rintro e w1 ⟨rfl, rfl⟩
          clear ho hget
          go_wp2_with fail
          refine (fail_any b (some l) _ hR).mono ?_
          rintro e w2 ⟨rfl, hr2, hm2⟩
          go_wp2_with fail
          rw [Exit.noGoto_ret]
          go_ret
          have e : Wire.rNum (some l) = (0, none) := by simp only [Wire.rNum]; rw [HO.out]
          rw [e]
          exact ⟨rfl, hr2, hm2⟩
        · have ho' : Wire.odd i l[i] = false := by simpa using ho
          by_cases hc : l[i].toNat < 128
          · have HO := Lib.hid (hn.last (by omega) hi ho' hc)
            go_wp2_with fail
            refine (odd_any i l[i] _ hi9).mono ?_
            rw [ho']
            rintro e w1 ⟨rfl, rfl⟩
            have hv := Lib.hid (dig_last i n l[i] hn.lt hi9 hc ho')
            clear ho ho'
            go_wp2_with fail
            rw [Exit.noGoto_ret]
            go_ret
            have e : Wire.rNum (some l) = (n + l[i].toNat * 128 ^ i, some (l.drop (i + 1))) := by simp only [Wire.rNum]; rw [HO.out]
            rw [e]
            refine ⟨ret_int hv.out, ?_, (Mod.refl _ _).setCell _ _ (.inl (by simp))⟩
            have h2 := hR.set 0 (.string ((ByteArray.mk l.toArray).extract (i + 1) l.length))
            rw [extract_list, List.take_of_length_le (by simp)] at *
            exact h2
          · have HO := Lib.hid (hn.next (by omega) hi ho' hc)
            go_wp2_with fail
            refine (odd_any i l[i] _ hi9).mono ?_
            rw [ho']
            rintro e w1 ⟨rfl, rfl⟩
            have hv := Lib.hid (dig_next i n l[i] hn.lt hi9 (by omega) ho')
            clear ho ho'
            go_wp2_with fail
            go_round
            case rel => exact ⟨i + 1, _, by rw [hv.out], by go_num, HO.out, by omega⟩
            case measure => simp [intOf]; omega
      · have HO := Lib.hid (hn.none_end (by omega))
        go_wp2_with fail
        refine (fail_any b (some l) _ hR).mono ?_
        rintro e w2 ⟨rfl, hr2, hm2⟩
        go_wp2_with fail
        rw [Exit.noGoto_ret]
        go_ret
        have e : Wire.rNum (some l) = (0, none) := by simp only [Wire.rNum]; rw [HO.out]
        rw [e]
        exact ⟨rfl, hr2, hm2⟩

set_option maxRecDepth 100000 in
set_option maxHeartbeats 400000 in
theorem num_none (b : Nat) (w : World) (hR : RdAt w b none) :
    Calls Try.prog 77 #[.pointer (some ⟨b, 0, none⟩)] w fun e w' => e = .returned (.int .u64 0) ∧ w = w' := by
  go_enter Try.func77, Try.ntmps77
  go_wp2_with fail
  go_step3
  go_wp2_with fail
  refine (ok_any b none _ hR).mono ?_
  rintro e w1 ⟨rfl, rfl⟩
  go_wp2_with fail
  rw [Exit.noGoto_ret]
  go_ret
  exact ⟨rfl, rfl⟩

def Wire.Rd.short (r : Wire.Rd) : Prop := ∀ l, r = some l → l.length ≤ 140737488355328
theorem rNum_any (b : Nat) (r : Wire.Rd) (w : World) (hR : RdAt w b r) (hl : Wire.Rd.short r) :
    Calls Try.prog 77 #[.pointer (some ⟨b, 0, none⟩)] w fun e w' => e = .returned (.int .u64 (Wire.rNum r).1) ∧ RdAt w' b (Wire.rNum r).2 ∧ Mod [b] w w' := by
  cases r with
  | none => exact (num_none b w hR).mono fun e w' h => ⟨h.1, h.2 ▸ hR, h.2 ▸ Mod.refl _ _⟩
  | some l => exact num_any b l w hR (hl l rfl)
theorem rNum_short {r : Wire.Rd} (h : Wire.Rd.short r) : Wire.Rd.short (Wire.rNum r).2 := by
  intro l hl
  cases r with
  | none => simp [Wire.rNum] at hl
  | some m =>
    have hm := h m rfl
    simp only [Wire.rNum] at hl
    cases ht : Wire.takeNum m with
    | none => rw [ht] at hl; simp at hl
    | some p =>
      rw [ht] at hl
      simp only [Option.some.injEq] at hl
      subst hl
      have := Wire.takeNum_length (r := p.2) (n := p.1) (l := m) (by rw [ht])
      omega

set_option maxHeartbeats 400000 in
theorem rText_any (b : Nat) (r : Wire.Rd) (w : World) (hR : RdAt w b r) (hl : Wire.Rd.short r) :
    Calls Try.prog 78 #[.pointer (some ⟨b, 0, none⟩)] w fun e w' => e = .returned (.string ⟨(Wire.rText r).1.toArray⟩) ∧ RdAt w' b (Wire.rText r).2 ∧ Mod [b] w w' := by
  have hs := rNum_short hl
  have hlt := Wire.rNum_lt r
  cases hn : Wire.rNum r with
  | mk n q =>
    rw [hn] at hs hlt
    simp only at hs hlt
    cases q with
    | none =>
      have HE := Lib.hid (show Wire.rText r = ([], none) by unfold Wire.rText; rw [hn])
      have HL := Lib.hid hlt
      clear hlt
      go_enter Try.func78, Try.ntmps78
      go_wp2_with fail
      refine (rNum_any b r _ hR hl).mono ?_
      rw [hn]
      rintro e w1 ⟨rfl, hr1, hm1⟩
      go_wp2_with fail
      refine (ok_any b none _ hr1).mono ?_
      rintro e w2 ⟨rfl, rfl⟩
      go_wp2_with fail
      refine (fail_any b none _ hr1).mono ?_
      rintro e w2 ⟨rfl, hr2, hm2⟩
      go_wp2_with fail
      go_ret
      rw [HE.out]
      exact ⟨rfl, hr2, hm1.trans hm2⟩
    | some m =>
      have hm := hs m rfl
      by_cases hlen : m.length < n
      · have HE := Lib.hid (show Wire.rText r = ([], none) by unfold Wire.rText; rw [hn]; simp only; rw [if_pos hlen])
        have HL := Lib.hid hlt
        clear hlt
        go_enter Try.func78, Try.ntmps78
        go_wp2_with fail
        refine (rNum_any b r _ hR hl).mono ?_
        rw [hn]
        rintro e w1 ⟨rfl, hr1, hm1⟩
        have h0 : w1.cell? ⟨b, 0, none⟩ = some (.string ⟨m.toArray⟩) := by rw [hr1.cell]; rfl
        go_wp2_with fail
        refine (ok_any b (some m) _ hr1).mono ?_
        rintro e w2 ⟨rfl, rfl⟩
        go_wp2_with fail
        refine (fail_any b (some m) _ hr1).mono ?_
        rintro e w2 ⟨rfl, hr2, hm2⟩
        go_wp2_with fail
        go_ret
        rw [HE.out]
        exact ⟨rfl, hr2, hm1.trans hm2⟩
      · have HE := Lib.hid (show Wire.rText r = (m.take n, some (m.drop n)) by unfold Wire.rText; rw [hn]; simp only; rw [if_neg hlen])
        have HL := Lib.hid hlt
        clear hlt
        go_enter Try.func78, Try.ntmps78
        go_wp2_with fail
        refine (rNum_any b r _ hR hl).mono ?_
        rw [hn]
        rintro e w1 ⟨rfl, hr1, hm1⟩
        have h0 : w1.cell? ⟨b, 0, none⟩ = some (.string ⟨m.toArray⟩) := by rw [hr1.cell]; rfl
        have f0 := hr1.free 0
        go_wp2_with fail
        refine (ok_any b (some m) _ hr1).mono ?_
        rintro e w2 ⟨rfl, rfl⟩
        go_wp2_with fail
        go_ret
        rw [HE.out]
        refine ⟨?_, ?_, hm1.setCell ⟨b, 0, none⟩ _ (.inl (by simp))⟩
        · rw [extract_list]; rfl
        · have h2 := hr1.set 0 (.string ((ByteArray.mk m.toArray).extract n m.length))
          rw [extract_list, List.take_of_length_le (by rw [List.length_drop]; exact Nat.le_refl _)] at h2
          rw [extract_list, List.take_of_length_le (by rw [List.length_drop]; exact Nat.le_refl _)]
          exact h2

set_option maxHeartbeats 400000 in
theorem end_any (b : Nat) (r : Wire.Rd) (w : World) (hR : RdAt w b r) :
    Calls Try.prog 79 #[.pointer (some ⟨b, 0, none⟩)] w fun e w' => e = .returned (.bool (decide (r = some []))) ∧ w = w' := by
  cases r with
  | none =>
    go_enter Try.func79, Try.ntmps79
    go_wp2_with fail
    refine (ok_any b none _ hR).mono ?_
    rintro e w1 ⟨rfl, rfl⟩
    go_wp2_with fail
    go_ret
    exact ⟨rfl, rfl⟩
  | some l =>
    have h0 : w.cell? ⟨b, 0, none⟩ = some (.string ⟨l.toArray⟩) := by rw [hR.cell]; rfl
    go_enter Try.func79, Try.ntmps79
    go_wp2_with fail
    refine (ok_any b (some l) _ hR).mono ?_
    rintro e w1 ⟨rfl, rfl⟩
    go_wp2_with fail
    go_ret
    refine ⟨ret_bool ?_, rfl⟩
    cases l <;> simp
end Go.Proofs.Ytnijijcbdajodaa
