/-
  The walks of may and Take. No condition.
-/
import Derived.Test.YtmicpjdlldjapaaSpPlain
namespace Go.Proofs.Ytmicpjdlldjapaa
set_option linter.unusedVariables false
set_option linter.unusedSimpArgs false
open Go.RowKit

set_option maxHeartbeats 4000000 in
theorem may_any (S : Sp) (hS0 : S.Good) (b g cap : Nat) (ms : List Nat) (seg pl n : Int) (hseg : isInt seg) (hpl : isInt pl) (hn : isInt n) (w : World) (h : SpAt w b g cap ms S) :
    Calls Try.prog 27 #[.pointer (some ⟨b, 0, none⟩), .agg #[.int .i64 seg, .int .i64 pl, .int .i64 n]] w fun e w' => e = .returned (.bool (S.may seg pl n)) ∧ Below w.heap.size w w' := by
  have hL0 : Blk (w.alloc (.cells #[.int .i64 seg, .int .i64 pl, .int .i64 n] 31)) w.heap.size [.int .i64 seg, .int .i64 pl, .int .i64 n] 31 := Blk.new _ _ _
  have hb0 := (Below.refl w.heap.size w).alloc (Nat.le_refl _) (.cells #[.int .i64 seg, .int .i64 pl, .int .i64 n] 31)
  have h1 := h.on hb0
  unfold isInt at hseg hpl hn
  have hsegs := hS0.inv.segs
  have hper := hS0.inv.per
  have hcap := h.len.2.1
  go_enter Try.func27, Try.ntmps27
  go_upto_region 1 with fail
  generalize w.alloc (.cells #[.int .i64 seg, .int .i64 pl, .int .i64 n] 31) = w1 at *
  have HF := Lib.hid (show ∀ w', Below w1.heap.size w1 w' → (w'.cell? ⟨b, 0, none⟩ = some (.slice (some ⟨g, 0, none⟩) S.segs cap) ∧ w'.cell? ⟨b, 1, none⟩ = some (.int .i64 S.per) ∧ w'.cell? ⟨b, 2, none⟩ = some (.int .i64 S.now) ∧ w'.cell? ⟨w.heap.size, 0, none⟩ = some (.int .i64 seg) ∧ w'.cell? ⟨w.heap.size, 1, none⟩ = some (.int .i64 pl) ∧ w'.cell? ⟨w.heap.size, 2, none⟩ = some (.int .i64 n)) from
    fun w' hb => ⟨(h1.on hb).cells.1, (h1.on hb).cells.2.1, (h1.on hb).cells.2.2.1, by rw [(hL0.on hb).cell]; rfl, by rw [(hL0.on hb).cell]; rfl, by rw [(hL0.on hb).cell]; rfl⟩)
  by_cases c0 : seg < 0
  · have HM := Lib.hid (show S.may seg pl n = false by rw [Bool.eq_false_iff]; intro hm; have := (Sp.may_iff.1 hm).1; omega)
    refine wp_region_settle (Below w1.heap.size w1) (by kernel_rfl) (by kernel_rfl) (by kernel_rfl) (below_drew (Below.refl _ _)) ?_
    repeat (first
      | (refine settled_not ?_ ?_
         · rfl
         simp only [Act.put, List.setIfInBounds_toArray, List.set_cons_zero, List.set_cons_succ])
      | (refine settled_val (v := ?_) ?_ (fun w' hS => ?_) ?_
         rotate_left
         · rfl
         · obtain ⟨k0, k1, k2, k3, k4, k5⟩ := HF.out w' hS
           go_simp
           with_reducible rfl
         simp only [Act.put, List.setIfInBounds_toArray, List.set_cons_zero, List.set_cons_succ]))
    refine settled_nil (fun w2 hS => ?_)
    go_wp2_with fail
    go_ret
    exact ⟨by rw [HM.out]; rfl, hb0.on hS⟩
  by_cases c1 : (S.segs : Int) ≤ seg
  · have HM := Lib.hid (show S.may seg pl n = false by rw [Bool.eq_false_iff]; intro hm; have := (Sp.may_iff.1 hm).1; omega)
    refine wp_region_settle (Below w1.heap.size w1) (by kernel_rfl) (by kernel_rfl) (by kernel_rfl) (below_drew (Below.refl _ _)) ?_
    repeat (first
      | (refine settled_not ?_ ?_
         · rfl
         simp only [Act.put, List.setIfInBounds_toArray, List.set_cons_zero, List.set_cons_succ])
      | (refine settled_val (v := ?_) ?_ (fun w' hS => ?_) ?_
         rotate_left
         · rfl
         · obtain ⟨k0, k1, k2, k3, k4, k5⟩ := HF.out w' hS
           go_simp
           with_reducible rfl
         simp only [Act.put, List.setIfInBounds_toArray, List.set_cons_zero, List.set_cons_succ]))
    refine settled_nil (fun w2 hS => ?_)
    go_wp2_with fail
    go_ret
    exact ⟨by rw [HM.out]; rfl, hb0.on hS⟩
  by_cases c2 : seg = S.now
  · have HM := Lib.hid (show S.may seg pl n = false by rw [Bool.eq_false_iff]; intro hm; have := (Sp.may_iff.1 hm).1; omega)
    have q2 : (seg == S.now) = true := by simp [c2]
    clear c2
    refine wp_region_settle (Below w1.heap.size w1) (by kernel_rfl) (by kernel_rfl) (by kernel_rfl) (below_drew (Below.refl _ _)) ?_
    repeat (first
      | (refine settled_not ?_ ?_
         · rfl
         simp only [Act.put, List.setIfInBounds_toArray, List.set_cons_zero, List.set_cons_succ])
      | (refine settled_val (v := ?_) ?_ (fun w' hS => ?_) ?_
         rotate_left
         · rfl
         · obtain ⟨k0, k1, k2, k3, k4, k5⟩ := HF.out w' hS
           go_simp
           with_reducible rfl
         simp only [Act.put, List.setIfInBounds_toArray, List.set_cons_zero, List.set_cons_succ]))
    refine settled_nil (fun w2 hS => ?_)
    go_wp2_with fail
    go_ret
    exact ⟨by rw [HM.out]; rfl, hb0.on hS⟩
  have q2 : (seg == S.now) = false := by simp [c2]
  by_cases c3 : pl < 0
  · have HM := Lib.hid (show S.may seg pl n = false by rw [Bool.eq_false_iff]; intro hm; have := (Sp.may_iff.1 hm).1; omega)
    refine wp_region_settle (Below w1.heap.size w1) (by kernel_rfl) (by kernel_rfl) (by kernel_rfl) (below_drew (Below.refl _ _)) ?_
    repeat (first
      | (refine settled_not ?_ ?_
         · rfl
         simp only [Act.put, List.setIfInBounds_toArray, List.set_cons_zero, List.set_cons_succ])
      | (refine settled_val (v := ?_) ?_ (fun w' hS => ?_) ?_
         rotate_left
         · rfl
         · obtain ⟨k0, k1, k2, k3, k4, k5⟩ := HF.out w' hS
           go_simp
           with_reducible rfl
         simp only [Act.put, List.setIfInBounds_toArray, List.set_cons_zero, List.set_cons_succ]))
    refine settled_nil (fun w2 hS => ?_)
    go_wp2_with fail
    go_ret
    exact ⟨by rw [HM.out]; rfl, hb0.on hS⟩
  by_cases c4 : (S.per : Int) ≤ pl
  · have HM := Lib.hid (show S.may seg pl n = false by rw [Bool.eq_false_iff]; intro hm; have := (Sp.may_iff.1 hm).1; omega)
    refine wp_region_settle (Below w1.heap.size w1) (by kernel_rfl) (by kernel_rfl) (by kernel_rfl) (below_drew (Below.refl _ _)) ?_
    repeat (first
      | (refine settled_not ?_ ?_
         · rfl
         simp only [Act.put, List.setIfInBounds_toArray, List.set_cons_zero, List.set_cons_succ])
      | (refine settled_val (v := ?_) ?_ (fun w' hS => ?_) ?_
         rotate_left
         · rfl
         · obtain ⟨k0, k1, k2, k3, k4, k5⟩ := HF.out w' hS
           go_simp
           with_reducible rfl
         simp only [Act.put, List.setIfInBounds_toArray, List.set_cons_zero, List.set_cons_succ]))
    refine settled_nil (fun w2 hS => ?_)
    go_wp2_with fail
    go_ret
    exact ⟨by rw [HM.out]; rfl, hb0.on hS⟩
  by_cases c5 : n < 1
  · have HM := Lib.hid (show S.may seg pl n = false by rw [Bool.eq_false_iff]; intro hm; have := (Sp.may_iff.1 hm).1; omega)
    refine wp_region_settle (Below w1.heap.size w1) (by kernel_rfl) (by kernel_rfl) (by kernel_rfl) (below_drew (Below.refl _ _)) ?_
    repeat (first
      | (refine settled_not ?_ ?_
         · rfl
         simp only [Act.put, List.setIfInBounds_toArray, List.set_cons_zero, List.set_cons_succ])
      | (refine settled_val (v := ?_) ?_ (fun w' hS => ?_) ?_
         rotate_left
         · rfl
         · obtain ⟨k0, k1, k2, k3, k4, k5⟩ := HF.out w' hS
           go_simp
           with_reducible rfl
         simp only [Act.put, List.setIfInBounds_toArray, List.set_cons_zero, List.set_cons_succ]))
    refine settled_nil (fun w2 hS => ?_)
    go_wp2_with fail
    go_ret
    exact ⟨by rw [HM.out]; rfl, hb0.on hS⟩
  by_cases c6 : (S.per : Int) - pl < n
  · have HM := Lib.hid (show S.may seg pl n = false by rw [Bool.eq_false_iff]; intro hm; have := (Sp.may_iff.1 hm).1; omega)
    have hwr : IntKind.i64.wrap ((S.per : Int) - pl) = (S.per : Int) - pl := IntWalk.i64_in _ (by omega)
    refine wp_region_settle (Below w1.heap.size w1) (by kernel_rfl) (by kernel_rfl) (by kernel_rfl) (below_drew (Below.refl _ _)) ?_
    repeat (first
      | (refine settled_not ?_ ?_
         · rfl
         simp only [Act.put, List.setIfInBounds_toArray, List.set_cons_zero, List.set_cons_succ])
      | (refine settled_val (v := ?_) ?_ (fun w' hS => ?_) ?_
         rotate_left
         · rfl
         · obtain ⟨k0, k1, k2, k3, k4, k5⟩ := HF.out w' hS
           go_simp
           with_reducible rfl
         simp only [Act.put, List.setIfInBounds_toArray, List.set_cons_zero, List.set_cons_succ]))
    refine settled_nil (fun w2 hS => ?_)
    go_wp2_with fail
    go_ret
    exact ⟨by rw [HM.out]; rfl, hb0.on hS⟩
  have hwr : IntKind.i64.wrap ((S.per : Int) - pl) = (S.per : Int) - pl := IntWalk.i64_in _ (by omega)
  refine wp_region_settle (Below w1.heap.size w1) (by kernel_rfl) (by kernel_rfl) (by kernel_rfl) (below_drew (Below.refl _ _)) ?_
  repeat (first
    | (refine settled_not ?_ ?_
       · rfl
       simp only [Act.put, List.setIfInBounds_toArray, List.set_cons_zero, List.set_cons_succ])
    | (refine settled_val (v := ?_) ?_ (fun w' hS => ?_) ?_
       rotate_left
       · rfl
       · obtain ⟨k0, k1, k2, k3, k4, k5⟩ := HF.out w' hS
         go_simp
         with_reducible rfl
       simp only [Act.put, List.setIfInBounds_toArray, List.set_cons_zero, List.set_cons_succ]))
  refine settled_nil (fun w2 hS => ?_)
  obtain ⟨i, rfl⟩ := Int.eq_ofNat_of_zero_le (show 0 ≤ seg by omega)
  obtain ⟨a, rfl⟩ := Int.eq_ofNat_of_zero_le (show 0 ≤ pl by omega)
  obtain ⟨c, rfl⟩ := Int.eq_ofNat_of_zero_le (show 0 ≤ n by omega)
  have hi : i < S.segs := by omega
  clear q2 hwr
  go_upto_region 3 with fail
  have hb2 := (Below.refl w1.heap.size w1).on hS
  clear hS
  have HG := Lib.hid (show ∀ w', Below w2.heap.size w2 w' → (w'.cell? ⟨b, 0, none⟩ = some (.slice (some ⟨g, 0, none⟩) S.segs cap) ∧ w'.cell? ⟨w.heap.size, 0, none⟩ = some (.int .i64 i) ∧ w'.cell? ⟨g, i * 2, none⟩ = some (.map (some (nth ms i)))) from
    fun w' hb => ⟨(HF.out w' (hb2.on hb)).1, (HF.out w' (hb2.on hb)).2.2.2.1, ((h1.on (hb2.on hb)).seg hi).1⟩)
  refine wp_region_settle_then 9 (Below w2.heap.size w2) (by kernel_rfl) (by kernel_rfl) (by kernel_rfl) (by kernel_rfl) (by kernel_rfl) (below_drew (Below.refl _ _)) ?_
  repeat (first
    | (refine settledL_not ?_ ?_
       · rfl
       simp only [Act.put, List.setIfInBounds_toArray, List.set_cons_zero, List.set_cons_succ])
    | (refine settledL_val (v := ?_) ?_ (fun w' hS => ?_) ?_
       rotate_left
       · rfl
       · obtain ⟨k0, k1, k2⟩ := HG.out w' hS
         go_simp
         with_reducible rfl
       simp only [Act.put, List.setIfInBounds_toArray, List.set_cons_zero, List.set_cons_succ]))
  refine settledL_end (fun w3 hS => ?_)
  have hb3 := hb2.on hS
  obtain ⟨w4, cnt, hrun, hr4, hb34, _⟩ := ((h1.on hb3).maps i hi).range
  refine seq_step (by rfl) (fun K hK => ?_)
  go_simp
  refine hK.out _ _ (seq_nil ?_)
  clear hK K HG hS hrun
  have hb4 := hb3.on hb34
  have hrge : w1.heap.size ≤ w3.heap.size := hb3.size
  have HP := Lib.hid (fun k => pieceN_mem (ls := S.ls) (i := i) (k := k))
  have HFit := Lib.hid hS0.inv.fit
  have HPer := hS0.inv.per
  have HOf := Lib.hid (fun p => pieceN_of_mem hS0.inv.apart hS0.pos (p := p))
  have HM := Lib.hid (Sp.may_iff (S := S) (seg := i) (pl := a) (n := c))
  generalize hf : pieceN S.ls i = f at *
  generalize w3.heap.size = r at *
  clear hb2 hb3 hb34
  go_wp2_with fail
  go_loopw [5, 6] (fun _ _ wr => ∃ (left : Int → Bool) (cnt : Nat), SRange wr (nth ms i) r S.cnt f left cnt ∧ Below w1.heap.size w1 wr ∧ (∀ k, isInt k → left k = true → f k ≠ 0) ∧ (∀ k, isInt k → f k ≠ 0 → left k = false → ¬ (k < a + c ∧ a < k + f k))) (fun _ _ wr => wr.rangeLeft (nth ms i) r)
  case atStart => exact ⟨_, cnt, hr4, hb4, fun k _ hk => by simpa using hk, fun k _ h0 hk => absurd h0 (by simpa using hk)⟩
  case round =>
    obtain ⟨left, cnt, hr, hbr, hin, hout⟩ := hrel
    have HIn := Lib.hid hin
    have HOut := Lib.hid hout
    clear hin hout
    rcases hr.next 0 with ⟨hdone, hrun⟩ | ⟨k, w5, cnt5, hk, hfk, hlk, hrun, hr5, hlt, hm5, hent⟩
    · have HD := Lib.hid (show S.may i a c = true from HM.out.2 ⟨by omega, fun p hp hh => by
        have h2 := HFit.out p hp
        have hsi : p.seg = i := by omega
        have h3 := HOf.out p hp
        rw [hsi, hf] at h3
        have hkp : isInt (p.pl : Int) := by unfold isInt; omega
        exact HOut.out p.pl hkp (by rw [h3]; omega) (hdone _ hkp) ⟨hh.2.1, by rw [h3]; exact hh.2.2⟩⟩)
      clear hdone
      go_wp2_with fail
      go_ret
      exact ⟨by rw [HD.out]; rfl, hb0.on hbr⟩
    · have hne := HIn.out k hk hlk
      obtain ⟨p, hp, e1, e2, e3⟩ := HP.out k hne
      have h2 := HFit.out p hp
      have hbr5 := (Mod.of_below (S := [r]) hbr).trans hm5 |>.below (B := w1.heap.size) (by simpa using hrge) (Nat.le_refl _)
      have hkb : 0 ≤ k ∧ k ≤ 64 := by omega
      have hvb : 1 ≤ f k ∧ f k ≤ 64 := by omega
      have hw1 : IntKind.i64.wrap ((a : Int) + c) = (a : Int) + c := IntWalk.i64_in _ (by omega)
      have hw2 : IntKind.i64.wrap (k + f k) = k + f k := IntWalk.i64_in _ (by omega)
      obtain ⟨k0, k1, k2, k3, k4, k5⟩ := HF.out w5 hbr5
      have HNo := Lib.hid (show k < a + c ∧ a < k + f k → S.may i a c = false by
        intro hh
        rw [Bool.eq_false_iff]
        intro hm
        exact (HM.out.1 hm).2 p hp ⟨by omega, by omega, by omega⟩)
      have HStep := Lib.hid (show ¬ (k < a + c ∧ a < k + f k) → ∀ x, isInt x → f x ≠ 0 → (left x && !decide (x = k)) = false → ¬ (x < a + c ∧ a < x + f x) by
        intro hno x hx h0 hl
        by_cases hxk : x = k
        · rw [hxk]; exact hno
        · exact HOut.out x hx h0 (by simpa [hxk] using hl))
      have HIn2 := Lib.hid (show ∀ x, isInt x → (left x && !decide (x = k)) = true → f x ≠ 0 from fun x hx hl => HIn.out x hx (by rw [Bool.and_eq_true] at hl; exact hl.1))
      have hle := hr.left_eq
      clear e1 e2 e3 h2 hne hlk hk hfk hp hm5
      generalize f k = v at *
      by_cases o1 : k < a + c
      · by_cases o2 : (a : Int) < k + v
        · have HN := Lib.hid (HNo.out ⟨o1, o2⟩)
          go_wp2_with fail
          go_ret
          exact ⟨by rw [HN.out]; rfl, hb0.on hbr5⟩
        · have HS := Lib.hid (HStep.out (fun hh => o2 hh.2))
          go_wp2_with fail
          go_roundw
          case rel => exact ⟨_, cnt5, hr5, hbr5, HIn2.out, HS.out⟩
          case measure => rw [hr5.left_eq, hle]; exact hlt
      · have HS := Lib.hid (HStep.out (fun hh => o1 hh.1))
        go_wp2_with fail
        go_roundw
        case rel => exact ⟨_, cnt5, hr5, hbr5, HIn2.out, HS.out⟩
        case measure => rw [hr5.left_eq, hle]; exact hlt
/-- What Take ends with. -/
def TakeEnds (S : Sp) (b g cap : Nat) (ms : List Nat) (seg pl n : Int) (w : World) (e : Ending) (w' : World) : Prop :=
  e = .returned (.int .i64 ((S.take seg pl n).1 : Nat)) ∧ SpAt w' b g cap ms (S.take seg pl n).2 ∧ Mod (b :: g :: ms) w w'
set_option maxHeartbeats 1000000 in
theorem take_any (S : Sp) (hS0 : S.Good) (hc : S.cnt < 10000) (b g cap : Nat) (ms : List Nat) (seg pl n : Int) (hseg : isInt seg) (hpl : isInt pl) (hn : isInt n) (w : World) (h : SpAt w b g cap ms S) :
    Calls Try.prog 13 #[.pointer (some ⟨b, 0, none⟩), .agg #[.int .i64 seg, .int .i64 pl, .int .i64 n]] w (TakeEnds S b g cap ms seg pl n w) := by
  have hL0 : Blk (w.alloc (.cells #[.int .i64 seg, .int .i64 pl, .int .i64 n] 31)) w.heap.size [.int .i64 seg, .int .i64 pl, .int .i64 n] 31 := Blk.new _ _ _
  have hb0 := (Below.refl w.heap.size w).alloc (Nat.le_refl _) (.cells #[.int .i64 seg, .int .i64 pl, .int .i64 n] 31)
  have h1 := h.on hb0
  go_enter Try.func13, Try.ntmps13
  go_upto_region 1 with fail
  generalize w.alloc (.cells #[.int .i64 seg, .int .i64 pl, .int .i64 n] 31) = w1 at *
  have k0 : w1.cell? ⟨w.heap.size, 0, none⟩ = some (.int .i64 seg) := by rw [hL0.cell]; rfl
  have k1 : w1.cell? ⟨w.heap.size, 1, none⟩ = some (.int .i64 pl) := by rw [hL0.cell]; rfl
  have k2 : w1.cell? ⟨w.heap.size, 2, none⟩ = some (.int .i64 n) := by rw [hL0.cell]; rfl
  go_wp2_with fail
  refine (may_any S hS0 b g cap ms seg pl n hseg hpl hn w1 h1).mono ?_
  rintro e w2 ⟨rfl, hb2⟩
  have h2 := h1.on hb2
  have hL2 := hL0.on hb2
  have hbb := hb0.on hb2
  clear k0 k1 k2
  by_cases hm : S.may seg pl n = true
  · obtain ⟨⟨m1, m2, m3, m4, m5, m6, m7⟩, hall⟩ := Sp.may_iff.1 hm
    have HT := Lib.hid (show S.take seg pl n = (0, S.put seg.toNat pl.toNat n.toNat) by unfold Sp.take; rw [if_pos hm]; rfl)
    rw [hm]
    obtain ⟨i, rfl⟩ := Int.eq_ofNat_of_zero_le m1
    obtain ⟨a, rfl⟩ := Int.eq_ofNat_of_zero_le m4
    obtain ⟨c, rfl⟩ := Int.eq_ofNat_of_zero_le (show 0 ≤ n by omega)
    have hper := hS0.inv.per
    have hz := hS0.zero (i := i) (pl := a) (n := c) (by omega) (fun p hp e => by have := hall p hp; omega)
    have k0 : w2.cell? ⟨w.heap.size, 0, none⟩ = some (.int .i64 i) := by rw [hL2.cell]; rfl
    have k1 : w2.cell? ⟨w.heap.size, 1, none⟩ = some (.int .i64 a) := by rw [hL2.cell]; rfl
    have k2 : w2.cell? ⟨w.heap.size, 2, none⟩ = some (.int .i64 c) := by rw [hL2.cell]; rfl
    have HA := Lib.hid (add_any S b g cap ms i a c w2 h2 hS0.inv.segs.2 (by omega) (by omega) (by omega) (by omega) hS0.pos hz (by omega) (by have := hS0.live hc i; omega))
    clear hm hall hz
    go_wp2_with fail
    refine HA.out.mono ?_
    rintro e w3 ⟨rfl, hs3, hm3⟩
    go_wp2_with fail
    go_ret
    exact ⟨by rw [HT.out]; rfl, by rw [HT.out]; exact hs3, (Mod.of_below hbb).trans hm3⟩
  · have HT := Lib.hid (show S.take seg pl n = (2, S) by unfold Sp.take; rw [if_neg hm])
    have hmf : S.may seg pl n = false := by simpa using hm
    rw [hmf]
    clear hm hmf
    go_wp2_with fail
    go_ret
    exact ⟨by rw [HT.out]; rfl, by rw [HT.out]; exact h2, Mod.of_below hbb⟩
end Go.Proofs.Ytmicpjdlldjapaa
