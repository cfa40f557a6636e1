/-
  The walks of the document's answer for numbers and texts as bytes (coupletref01). Condition: texts are shorter than 2^47.
-/
import Derived.Test.YtnijijcbdajodaaWireR
namespace Go.Proofs.Ytnijijcbdajodaa
set_option linter.unusedVariables false
set_option linter.unusedSimpArgs false
open Go.RowKit

/-- A reader of the document's at a block. -/
def QdAt (w : World) (b : Nat) (r : Wire.Rd) : Prop := Blk w b (rdV r) 69

set_option maxHeartbeats 400000 in
theorem qfail_any (b : Nat) (r : Wire.Rd) (w : World) (h : QdAt w b r) :
    Calls Try.prog 80 #[.pointer (some ⟨b, 0, none⟩)] w fun e w' => e = .returned (.int .u64 0) ∧ QdAt w' b none ∧ Mod [b] w w' := by
  obtain ⟨s, bad, hr⟩ : ∃ s bad, rdV r = [.string s, .bool bad] := by cases r <;> exact ⟨_, _, rfl⟩
  have h0 : w.cell? ⟨b, 0, none⟩ = some (.string s) := by rw [h.cell, hr]; rfl
  have h1 : w.cell? ⟨b, 1, none⟩ = some (.bool bad) := by rw [h.cell, hr]; rfl
  have f0 := h.free 0
  have f1 := h.free 1
  go_enter Try.func80, Try.ntmps80
  go_wp2_with fail
  go_ret
  have h2 := (h.set 0 (.string ⟨[].toArray⟩)).set 1 (.bool true)
  rw [hr] at h2
  exact ⟨rfl, h2, ((Mod.refl _ _).setCell _ _ (.inl (by simp))).setCell _ _ (.inl (by simp))⟩

set_option maxHeartbeats 400000 in
theorem qok_any (b : Nat) (r : Wire.Rd) (w : World) (h : QdAt w b r) :
    Calls Try.prog 40 #[.pointer (some ⟨b, 0, none⟩)] w fun e w' => e = .returned (.bool r.isSome) ∧ w = w' := by
  have h1 : w.cell? ⟨b, 1, none⟩ = some (.bool !r.isSome) := by rw [h.cell]; cases r <;> rfl
  go_enter Try.func40, Try.ntmps40
  go_wp2_with fail
  go_ret
  exact ⟨by simp, rfl⟩

/-- What the document's way of laying a number has behind i digits. -/
structure QDigs (w : World) (l : List UInt8) (n : Nat) (i m : Nat) (s : List UInt8) (wr : World) : Prop where
  le : i ≤ 9
  all : l ++ Wire.putNum n = s ++ Wire.put (9 - i) m
  len : s.length = l.length + i
  lt : m * 128 ^ i < U64
  bel : Below w.heap.size w wr
theorem str_one (s : List UInt8) (x : Nat) (c : UInt8) (h : UInt8.ofNat x = c) (y : Int) (hy : y = x) : Value.string (⟨s.toArray⟩ ++ strOfNums [y]) = .string ⟨(s ++ [c]).toArray⟩ := by
  subst hy
  subst h
  have e : strOfNums [(x : Int)] = ⟨[UInt8.ofNat x].toArray⟩ := rfl
  rw [e]
  rfl
theorem wrap_div (m : Nat) (h : m < U64) : IntKind.u64.wrap ((m : Int) / 128) = ((m / 128 : Nat) : Int) := by
  unfold U64 at h
  rw [IntKind.wrap_u64]; omega
theorem QDigs.m_lt {w : World} {l : List UInt8} {n i m : Nat} {s : List UInt8} {wr : World} (h : QDigs w l n i m s wr) : m < U64 :=
  Nat.lt_of_le_of_lt (Nat.le_mul_of_pos_right _ (Nat.pow_pos (by omega))) h.lt
theorem QDigs.step {w : World} {l : List UInt8} {n i m : Nat} {s : List UInt8} {wr wn : World} (h : QDigs w l n i m s wr) (hm : 128 ≤ m) (hi : i ≤ 8) (hb : Below w.heap.size w wn) :
    QDigs w l n (i + 1) (m / 128) (s ++ [UInt8.ofNat (128 + m % 128)]) wn := by
  refine ⟨by omega, ?_, by simp [h.len]; omega, ?_, hb⟩
  · rw [h.all, List.append_assoc, show 9 - i = (9 - (i + 1)) + 1 from by omega, put_big _ _ hm]; rfl
  · have := h.lt
    have e : m / 128 * 128 ^ (i + 1) ≤ m * 128 ^ i := by
      rw [Wire.pow128, ← Nat.mul_assoc]; exact Nat.mul_le_mul_right _ (by omega)
    omega
theorem lt_eight {i m : Nat} (h : m * 128 ^ i < U64) (hm : 128 ≤ m) (hi : i ≤ 9) : i ≤ 8 := by
  rcases Nat.lt_or_ge i 9 with h2 | h2
  · omega
  · obtain rfl : i = 9 := by omega
    have e9 : (128 : Nat) ^ 9 = 9223372036854775808 := by decide
    rw [e9] at h
    unfold U64 at h
    omega

set_option maxRecDepth 100000 in
set_option maxHeartbeats 1000000 in
theorem qputNum_any (l : List UInt8) (n : Nat) (w : World) (hs : l.length ≤ 140737488355328) (hn : n < U64) :
    Calls Try.prog 23 #[.string ⟨l.toArray⟩, .int .u64 n] w fun e w' => e = .returned (.string ⟨(l ++ Wire.putNum n).toArray⟩) ∧ Below w.heap.size w w' := by
  go_enter Try.func23, Try.ntmps23
  go_wp2_with fail
  go_loopw [0, 1] (fun s0 s1 wr => ∃ (i m : Nat) (s : List UInt8), s0 = .string ⟨s.toArray⟩ ∧ s1 = .int .u64 m ∧ QDigs w l n i m s wr) (fun _ s1 _ => (intOf s1).toNat)
  case atStart => exact ⟨0, n, l, rfl, rfl, ⟨by omega, rfl, rfl, by rw [Nat.pow_zero, Nat.mul_one]; exact hn, Below.refl _ _⟩⟩
  case round =>
    obtain ⟨i, m, s, rfl, rfl, hd⟩ := hrel
    have hsl := hd.len
    have hi := hd.le
    have hs9 : s.length ≤ 140737488355337 := by omega
    clear hsl
    by_cases hlt : 128 ≤ m
    · have hi8 := lt_eight hd.lt hlt hi
      have hconv := run_convert_bytes_arg (P := Try.prog) (wr.alloc (.cells #[.int .u8 (128 + (m : Int) % 128)] 5)) 38 5 Try.underlying38 Try.underlying5 wr.heap.size 0 1 1 [128 + (m : Int) % 128] rfl
        (by intro i hi
            match i, hi with
            | 0, _ => rw [World.cell?_alloc_new]; rfl) 9 Try.underlying9
      have hz : (strOfNums [128 + (m : Int) % 128]).size ≤ 1 := by rw [strOfNums_size]; simp
      have hnext := Lib.hid (hd.step (wn := wr.alloc (.cells #[.int .u8 (128 + (m : Int) % 128)] 5)) hlt hi8 (below_one hd.bel _))
      have hw := Lib.hid (wrap_div m hd.m_lt)
      clear hd
      go_wp2_with fail
      go_roundw
      case rel => exact ⟨i + 1, m / 128, _, str_one s (128 + m % 128) _ rfl _ (by omega), by rw [hw.out], hnext.out⟩
      case measure => rw [hw.out]; simp [intOf]; omega
    · have hconv := run_convert_bytes_arg (P := Try.prog) (wr.alloc (.cells #[.int .u8 (m : Int)] 5)) 38 5 Try.underlying38 Try.underlying5 wr.heap.size 0 1 1 [(m : Int)] rfl
        (by intro i hi
            match i, hi with
            | 0, _ => rw [World.cell?_alloc_new]; rfl) 9 Try.underlying9
      have hz : (strOfNums [(m : Int)]).size ≤ 1 := by rw [strOfNums_size]; simp
      have hb := below_one hd.bel (.cells #[.int .u8 (m : Int)] 5)
      have ha := Lib.hid hd.all
      clear hd
      go_wp2_with fail
      go_ret
      refine ⟨?_, hb⟩
      rw [ha.out, put_small _ _ (by omega)]
      exact congrArg Ending.returned (str_one s m _ rfl _ rfl)

set_option maxHeartbeats 400000 in
theorem qputText_any (l t : List UInt8) (w : World) (hs : l.length + t.length ≤ 140737488355000) :
    Calls Try.prog 24 #[.string ⟨l.toArray⟩, .string ⟨t.toArray⟩] w fun e w' => e = .returned (.string ⟨(l ++ Wire.putText t).toArray⟩) ∧ Below w.heap.size w w' := by
  have hp := Wire.put_length 9 t.length
  go_enter Try.func24, Try.ntmps24
  go_wp2_with fail
  refine (qputNum_any l t.length _ (by omega) (by unfold U64; omega)).mono ?_
  rintro e w1 ⟨rfl, hb⟩
  have hl : (l ++ Wire.putNum t.length).length ≤ l.length + 10 := by rw [List.length_append]; unfold Wire.putNum; omega
  generalize hq : l ++ Wire.putNum t.length = q at *
  have HQ := Lib.hid hq
  clear hq
  go_wp2_with fail
  go_ret
  refine ⟨?_, hb⟩
  unfold Wire.putText
  rw [← List.append_assoc, HQ.out]
  rfl

theorem odd_eight {i : Nat} {c : UInt8} (hi : i ≤ 9) (ho : Wire.odd i c = false) (hc : ¬ c.toNat < 128) : i ≤ 8 := by
  rw [odd_nat] at ho
  simp at ho
  omega
theorem q_val (i n : Nat) (c : UInt8) (hn : n < 128 ^ i) (hi : i ≤ 9) (ho : Wire.odd i c = false) :
    IntKind.u64.wrap ((n : Int) + IntKind.u64.wrap ((c.toNat : Int) % 128 * 128 ^ i)) = ((n + c.toNat % 128 * 128 ^ i : Nat) : Int) := by
  have h1 := place_lt i c (c.toNat % 128) hi (by omega) (by omega) ho
  have h2 : 128 ^ i ≤ 128 ^ 9 := Nat.pow_le_pow_right (by omega) hi
  have e9 : (128 : Nat) ^ 9 = 9223372036854775808 := by decide
  have h3 : i = 9 → c.toNat % 128 * 128 ^ i ≤ 9223372036854775808 := by
    rintro rfl
    rw [odd_nat] at ho
    simp at ho
    rw [e9]; omega
  have h4 : i ≤ 8 → c.toNat % 128 * 128 ^ i ≤ 9223372036854775808 := by
    intro h
    have h5 : c.toNat % 128 * 128 ^ i ≤ 127 * 128 ^ i := Nat.mul_le_mul_right _ (by omega)
    have h6 : 128 ^ i ≤ 128 ^ 8 := Nat.pow_le_pow_right (by omega) h
    have e8 : (128 : Nat) ^ 8 = 72057594037927936 := by decide
    omega
  have h7 : c.toNat % 128 * 128 ^ i ≤ 9223372036854775808 := by
    rcases Nat.lt_or_ge i 9 with h | h
    · exact h4 (by omega)
    · exact h3 (by omega)
  have e : ((c.toNat : Int) % 128 * 128 ^ i) = ((c.toNat % 128 * 128 ^ i : Nat) : Int) := by simp
  rw [e, IntKind.wrap_u64, IntKind.wrap_u64]
  generalize c.toNat % 128 * 128 ^ i = x at *
  omega
theorem q_times (i : Nat) (hi : i ≤ 8) : IntKind.u64.wrap ((128 : Int) ^ i * 128) = ((128 ^ (i + 1) : Nat) : Int) := by
  have h2 : 128 ^ (i + 1) ≤ 128 ^ 9 := Nat.pow_le_pow_right (by omega) (by omega)
  have e9 : (128 : Nat) ^ 9 = 9223372036854775808 := by decide
  have e : ((128 : Int) ^ i * 128) = ((128 ^ (i + 1) : Nat) : Int) := by rw [Nat.pow_succ]; simp
  rw [e, IntKind.wrap_u64]
  generalize (128 : Nat) ^ (i + 1) = x at *
  omega

set_option maxRecDepth 100000 in
set_option maxHeartbeats 1000000 in
theorem qnum_some (b : Nat) (l : List UInt8) (w : World) (hR : QdAt w b (some l)) (hl : l.length ≤ 140737488355328) :
    Calls Try.prog 38 #[.pointer (some ⟨b, 0, none⟩)] w fun e w' => e = .returned (.int .u64 (Wire.rNum (some l)).1) ∧ QdAt w' b (Wire.rNum (some l)).2 ∧ Mod [b] w w' := by
  have h0 : w.cell? ⟨b, 0, none⟩ = some (.string ⟨l.toArray⟩) := by rw [hR.cell]; rfl
  have f0 := hR.free 0
  go_enter Try.func38, Try.ntmps38
  go_wp2_with fail
  go_loopw [3, 4, 5] (fun s3 s4 s5 wr => ∃ (i n : Nat) (T : Int), s3 = .int .u64 n ∧ s4 = .int .u64 T ∧ s5 = .int .i64 i ∧ NumTo l i n ∧ (i ≤ 9 → T = ((128 ^ i : Nat) : Int)) ∧ wr = w) (fun _ _ s5 _ => 10 - (intOf s5).toNat)
  case atStart => exact ⟨0, 0, 1, rfl, rfl, rfl, NumTo.start l, fun _ => rfl, rfl⟩
  case round =>
    obtain ⟨i, n, T, rfl, rfl, rfl, hn, hT, rfl⟩ := hrel
    by_cases hlt : i < l.length ∧ i < 10
    · obtain ⟨hi, hi10⟩ := hlt
      obtain ⟨c, hc⟩ : ∃ c, l[i] = c := ⟨_, rfl⟩
      have hget : (ByteArray.mk l.toArray)[i]'(by simpa [ByteArray.size] using hi) = c := hc
      have hTe := hT (by omega)
      clear hT
      subst hTe
      have hcl := c.toNat_lt
      have hcase : (0 < i ∧ c.toNat ≤ 0) ∨ (0 < i ∧ 0 < c.toNat ∧ 9 ≤ i ∧ 1 < c.toNat) ∨ (i ≤ 0) ∨ (0 < i ∧ 0 < c.toNat ∧ i < 9) ∨ (0 < i ∧ 9 ≤ i ∧ 0 < c.toNat ∧ c.toNat ≤ 1) := by omega
      rcases hcase with ⟨q1, q2⟩ | ⟨q1, q2, q3, q4⟩ | q1 | ⟨q1, q2, q3⟩ | ⟨q1, q2, q3, q4⟩
      · have HO := Lib.hid (hn.odd (by omega) hi (by rw [hc, odd_nat, Bool.eq_iff_iff]; simp; omega))
        clear hn hc
        go_wp2_with fail
        refine (qfail_any b (some l) _ hR).mono ?_
        rintro e w2 ⟨rfl, hr2, hm2⟩
        go_wp2_with fail
        go_ret
        have e : Wire.rNum (some l) = (0, none) := by simp only [Wire.rNum]; rw [HO.out]
        rw [e]
        exact ⟨rfl, hr2, hm2⟩
      · have HO := Lib.hid (hn.odd (by omega) hi (by rw [hc, odd_nat, Bool.eq_iff_iff]; simp; omega))
        clear hn hc
        go_wp2_with fail
        refine (qfail_any b (some l) _ hR).mono ?_
        rintro e w2 ⟨rfl, hr2, hm2⟩
        go_wp2_with fail
        go_ret
        have e : Wire.rNum (some l) = (0, none) := by simp only [Wire.rNum]; rw [HO.out]
        rw [e]
        exact ⟨rfl, hr2, hm2⟩
      · have ho : Wire.odd i c = false := by rw [odd_nat, Bool.eq_false_iff]; simp; omega
        have HV := Lib.hid (q_val i n c hn.lt (by omega) ho)
        by_cases h128 : c.toNat < 128
        · have HO := Lib.hid (hn.last (by omega) hi (by rw [hc]; exact ho) (by rw [hc]; exact h128))
          clear ho hn hc
          go_wp2_with fail
          go_ret
          have e : Wire.rNum (some l) = (n + l[i].toNat * 128 ^ i, some (l.drop (i + 1))) := by simp only [Wire.rNum]; rw [HO.out]
          rw [e]
          refine ⟨ret_int ?_, ?_, (Mod.refl _ _).setCell ⟨b, 0, none⟩ _ (.inl (by simp))⟩
          · rw [show l[i] = c from hget, HV.out, Nat.mod_eq_of_lt h128]
          · have h2 := hR.set 0 (.string ((ByteArray.mk l.toArray).extract (i + 1) l.length))
            rw [extract_list, List.take_of_length_le (by rw [List.length_drop]; exact Nat.le_refl _)] at h2
            rw [extract_list, List.take_of_length_le (by rw [List.length_drop]; exact Nat.le_refl _)]
            exact h2
        · have HO := Lib.hid (hn.next (by omega) hi (by rw [hc]; exact ho) (by rw [hc]; exact h128))
          have hi8 : i ≤ 8 := odd_eight (by omega) ho h128
          clear ho hn hc
          go_wp2_with fail
          go_roundw
          case rel => exact ⟨i + 1, _, _, by rw [HV.out, show c.toNat % 128 = c.toNat - 128 from by omega, ← show l[i] = c from hget], rfl, by go_num, HO.out, fun h => q_times i (by omega), trivial⟩
          case measure => simp [intOf]; omega
      · have ho : Wire.odd i c = false := by rw [odd_nat, Bool.eq_false_iff]; simp; omega
        have HV := Lib.hid (q_val i n c hn.lt (by omega) ho)
        by_cases h128 : c.toNat < 128
        · have HO := Lib.hid (hn.last (by omega) hi (by rw [hc]; exact ho) (by rw [hc]; exact h128))
          clear ho hn hc
          go_wp2_with fail
          go_ret
          have e : Wire.rNum (some l) = (n + l[i].toNat * 128 ^ i, some (l.drop (i + 1))) := by simp only [Wire.rNum]; rw [HO.out]
          rw [e]
          refine ⟨ret_int ?_, ?_, (Mod.refl _ _).setCell ⟨b, 0, none⟩ _ (.inl (by simp))⟩
          · rw [show l[i] = c from hget, HV.out, Nat.mod_eq_of_lt h128]
          · have h2 := hR.set 0 (.string ((ByteArray.mk l.toArray).extract (i + 1) l.length))
            rw [extract_list, List.take_of_length_le (by rw [List.length_drop]; exact Nat.le_refl _)] at h2
            rw [extract_list, List.take_of_length_le (by rw [List.length_drop]; exact Nat.le_refl _)]
            exact h2
        · have HO := Lib.hid (hn.next (by omega) hi (by rw [hc]; exact ho) (by rw [hc]; exact h128))
          have hi8 : i ≤ 8 := odd_eight (by omega) ho h128
          clear ho hn hc
          go_wp2_with fail
          go_roundw
          case rel => exact ⟨i + 1, _, _, by rw [HV.out, show c.toNat % 128 = c.toNat - 128 from by omega, ← show l[i] = c from hget], rfl, by go_num, HO.out, fun h => q_times i (by omega), trivial⟩
          case measure => simp [intOf]; omega
      · have ho : Wire.odd i c = false := by rw [odd_nat, Bool.eq_false_iff]; simp; omega
        have HV := Lib.hid (q_val i n c hn.lt (by omega) ho)
        by_cases h128 : c.toNat < 128
        · have HO := Lib.hid (hn.last (by omega) hi (by rw [hc]; exact ho) (by rw [hc]; exact h128))
          have hb9 : ((i : Int) == 9) = true := by rw [beq_iff_eq]; omega
          have hb1 : ((c.toNat : Int) == 0) = false := by rw [beq_eq_false_iff_ne]; omega
          clear ho hn hc
          go_wp2_with fail
          go_ret
          have e : Wire.rNum (some l) = (n + l[i].toNat * 128 ^ i, some (l.drop (i + 1))) := by simp only [Wire.rNum]; rw [HO.out]
          rw [e]
          refine ⟨ret_int ?_, ?_, (Mod.refl _ _).setCell ⟨b, 0, none⟩ _ (.inl (by simp))⟩
          · rw [show l[i] = c from hget, HV.out, Nat.mod_eq_of_lt h128]
          · have h2 := hR.set 0 (.string ((ByteArray.mk l.toArray).extract (i + 1) l.length))
            rw [extract_list, List.take_of_length_le (by rw [List.length_drop]; exact Nat.le_refl _)] at h2
            rw [extract_list, List.take_of_length_le (by rw [List.length_drop]; exact Nat.le_refl _)]
            exact h2
        · omega
    · have HO := Lib.hid (hn.none_end (by have := hn.le; have := hn.len; omega))
      by_cases hil : i < l.length
      · have h10 : 10 ≤ i := by omega
        clear hlt hn
        go_wp2_with fail
        refine (qfail_any b (some l) _ hR).mono ?_
        rintro e w2 ⟨rfl, hr2, hm2⟩
        go_wp2_with fail
        go_ret
        have e : Wire.rNum (some l) = (0, none) := by simp only [Wire.rNum]; rw [HO.out]
        rw [e]
        exact ⟨rfl, hr2, hm2⟩
      · clear hlt hn
        go_wp2_with fail
        refine (qfail_any b (some l) _ hR).mono ?_
        rintro e w2 ⟨rfl, hr2, hm2⟩
        go_wp2_with fail
        go_ret
        have e : Wire.rNum (some l) = (0, none) := by simp only [Wire.rNum]; rw [HO.out]
        rw [e]
        exact ⟨rfl, hr2, hm2⟩

set_option maxRecDepth 100000 in
set_option maxHeartbeats 400000 in
theorem qnum_none (b : Nat) (w : World) (hR : QdAt w b none) :
    Calls Try.prog 38 #[.pointer (some ⟨b, 0, none⟩)] w fun e w' => e = .returned (.int .u64 0) ∧ QdAt w' b none ∧ Mod [b] w w' := by
  have h0 : w.cell? ⟨b, 0, none⟩ = some (.string ⟨[].toArray⟩) := by rw [hR.cell]; rfl
  go_enter Try.func38, Try.ntmps38
  go_wp2_with fail
  go_loopw [3, 4, 5] (fun s3 s4 s5 wr => s3 = .int .u64 0 ∧ s4 = .int .u64 1 ∧ s5 = .int .i64 0 ∧ wr = w) (fun _ _ _ _ => 0)
  case atStart => exact ⟨rfl, rfl, rfl, rfl⟩
  case round =>
    obtain ⟨rfl, rfl, rfl, rfl⟩ := hrel
    go_wp2_with fail
    refine (qfail_any b none _ hR).mono ?_
    rintro e w2 ⟨rfl, hr2, hm2⟩
    go_wp2_with fail
    go_ret
    exact ⟨rfl, hr2, hm2⟩

theorem qNum_any (b : Nat) (r : Wire.Rd) (w : World) (hR : QdAt w b r) (hl : Wire.Rd.short r) :
    Calls Try.prog 38 #[.pointer (some ⟨b, 0, none⟩)] w fun e w' => e = .returned (.int .u64 (Wire.rNum r).1) ∧ QdAt w' b (Wire.rNum r).2 ∧ Mod [b] w w' := by
  cases r with
  | none => exact qnum_none b w hR
  | some l => exact qnum_some b l w hR (hl l rfl)

set_option maxHeartbeats 400000 in
theorem qText_any (b : Nat) (r : Wire.Rd) (w : World) (hR : QdAt w b r) (hl : Wire.Rd.short r) :
    Calls Try.prog 39 #[.pointer (some ⟨b, 0, none⟩)] w fun e w' => e = .returned (.string ⟨(Wire.rText r).1.toArray⟩) ∧ QdAt w' b (Wire.rText r).2 ∧ Mod [b] w w' := by
  have hs := rNum_short hl
  have hlt := Wire.rNum_lt r
  cases hn : Wire.rNum r with
  | mk n q =>
    rw [hn] at hs hlt
    simp only at hs hlt
    cases q with
    | none =>
      have HE := Lib.hid (show Wire.rText r = ([], none) by unfold Wire.rText; rw [hn])
      have HL := Lib.hid hlt
      clear hlt
      go_enter Try.func39, Try.ntmps39
      go_wp2_with fail
      refine (qNum_any b r _ hR hl).mono ?_
      rw [hn]
      rintro e w1 ⟨rfl, hr1, hm1⟩
      have h1 : w1.cell? ⟨b, 1, none⟩ = some (.bool true) := by rw [hr1.cell]; rfl
      go_wp2_with fail
      refine (qfail_any b none _ hr1).mono ?_
      rintro e w2 ⟨rfl, hr2, hm2⟩
      go_wp2_with fail
      go_ret
      rw [HE.out]
      exact ⟨rfl, hr2, hm1.trans hm2⟩
    | some m =>
      have hm := hs m rfl
      by_cases hlen : m.length < n
      · have HE := Lib.hid (show Wire.rText r = ([], none) by unfold Wire.rText; rw [hn]; simp only; rw [if_pos hlen])
        have HL := Lib.hid hlt
        clear hlt
        go_enter Try.func39, Try.ntmps39
        go_wp2_with fail
        refine (qNum_any b r _ hR hl).mono ?_
        rw [hn]
        rintro e w1 ⟨rfl, hr1, hm1⟩
        have h0 : w1.cell? ⟨b, 0, none⟩ = some (.string ⟨m.toArray⟩) := by rw [hr1.cell]; rfl
        have h1 : w1.cell? ⟨b, 1, none⟩ = some (.bool false) := by rw [hr1.cell]; rfl
        go_wp2_with fail
        refine (qfail_any b (some m) _ hr1).mono ?_
        rintro e w2 ⟨rfl, hr2, hm2⟩
        go_wp2_with fail
        go_ret
        rw [HE.out]
        exact ⟨rfl, hr2, hm1.trans hm2⟩
      · have HE := Lib.hid (show Wire.rText r = (m.take n, some (m.drop n)) by unfold Wire.rText; rw [hn]; simp only; rw [if_neg hlen])
        have HL := Lib.hid hlt
        clear hlt
        go_enter Try.func39, Try.ntmps39
        go_wp2_with fail
        refine (qNum_any b r _ hR hl).mono ?_
        rw [hn]
        rintro e w1 ⟨rfl, hr1, hm1⟩
        have h0 : w1.cell? ⟨b, 0, none⟩ = some (.string ⟨m.toArray⟩) := by rw [hr1.cell]; rfl
        have h1 : w1.cell? ⟨b, 1, none⟩ = some (.bool false) := by rw [hr1.cell]; rfl
        have f0 := hr1.free 0
        go_wp2_with fail
        go_ret
        rw [HE.out]
        refine ⟨?_, ?_, hm1.setCell ⟨b, 0, none⟩ _ (.inl (by simp))⟩
        · rw [extract_list]; rfl
        · have h2 := hr1.set 0 (.string ((ByteArray.mk m.toArray).extract n m.length))
          rw [extract_list, List.take_of_length_le (by rw [List.length_drop]; exact Nat.le_refl _)] at h2
          rw [extract_list, List.take_of_length_le (by rw [List.length_drop]; exact Nat.le_refl _)]
          exact h2
end Go.Proofs.Ytnijijcbdajodaa
