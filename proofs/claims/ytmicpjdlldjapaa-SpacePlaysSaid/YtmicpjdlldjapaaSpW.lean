/-
  The walks of at, gives and works. No condition.
-/
import Derived.Test.YtmicpjdlldjapaaSpL
namespace Go.Proofs.Ytmicpjdlldjapaa
set_option linter.unusedVariables false
set_option linter.unusedSimpArgs false
open Go.RowKit

theorem Sp.Good.alloc {S : Sp} (h : S.Good) (n : Int) (spare : Bool) : (S.alloc n spare).2.2.Good := by
  unfold Sp.alloc
  have hper := h.inv.per
  have hnow := h.inv.now
  split
  · exact h
  · rename_i hn
    split
    · split
      · exact h
      · rename_i i r hL
        split
        · exact h
        · have hi := List.mem_filter.1 (show i ∈ S.free by rw [hL]; simp)
          have hi0 : liveN S.ls i = 0 := by simpa using hi.2
          have hz := (liveN_pos h.pos i).1 hi0
          exact ((h.start (List.mem_range.1 hi.1) hi0 0 (Nat.zero_le _)).up (m := 0 + n.toNat) (by show 0 ≤ 0 + n.toNat; omega) (by show 0 + n.toNat ≤ S.per; omega)).put (i := i) (pl := 0) (n := n.toNat) (List.mem_range.1 hi.1) (by omega) (by show 0 + n.toNat ≤ S.per; omega) (fun p hp e => absurd e (hz p hp)) (fun _ => Nat.le_refl _)
    · rename_i hq
      obtain ⟨i, hi⟩ := Int.eq_ofNat_of_zero_le (show 0 ≤ S.now by omega)
      have := (h.up (m := S.mark + n.toNat) (by omega) (by omega)).put (i := S.now.toNat) (pl := S.mark) (n := n.toNat) (by show S.now.toNat < S.segs; omega) (by omega) (by show S.mark + n.toNat ≤ S.per; omega) (fun p hp e => .inl (h.inv.below p hp (by omega))) (fun _ => Nat.le_refl _)
      have e : (⟨S.segs, S.per, S.ls, S.now, S.mark + n.toNat, S.cnt⟩ : Sp).put S.now.toNat S.mark n.toNat = S.fill S.now.toNat S.mark n.toNat := by
        unfold Sp.put Sp.fill
        rw [Int.toNat_of_nonneg (by omega)]
      rw [← e]; exact this
/-- What is asked to know that a space that is written out is a good one. -/
def goodB (S : Sp) : Bool := decide (2 ≤ S.segs ∧ S.segs ≤ 64) && decide (1 ≤ S.per ∧ S.per ≤ 64) && decide (-1 ≤ S.now ∧ S.now < S.segs) && decide (S.mark ≤ S.per) && (S.ls.all fun p => decide (p.seg < S.segs ∧ 1 ≤ p.n ∧ p.pl + p.n ≤ S.per)) && decide (S.ls.Pairwise fun p q => p.seg = q.seg → p.pl + p.n ≤ q.pl ∨ q.pl + q.n ≤ p.pl) && (S.ls.all fun p => decide ((p.seg : Int) = S.now → p.pl + p.n ≤ S.mark)) && decide (S.ls.length ≤ S.cnt)
theorem good_of {S : Sp} (h : goodB S = true) : S.Good := by
  unfold goodB at h
  simp only [Bool.and_eq_true, decide_eq_true_eq, List.all_eq_true] at h
  obtain ⟨⟨⟨⟨⟨⟨⟨h1, h2⟩, h3⟩, h4⟩, h5⟩, h6⟩, h7⟩, h8⟩ := h
  exact ⟨⟨h1, h2, h3, h4, h5, h6, h7⟩, h8⟩
instance (k : Int) : Decidable (isInt k) := by unfold isInt; infer_instance

theorem results_loc1 {fn : Func} {p : Tmp} (h : fn.results = #[.cell p 31]) (tmps : Array Value) {w : World} {E : Nat} {x y z : Int} (hp : tmps.getD p undef = .pointer (some ⟨E, 0, none⟩))
    (hE : Blk w E [.int .i64 x, .int .i64 y, .int .i64 z] 31) : (results fn tmps).run Try.prog w = .ok (.agg #[.int .i64 x, .int .i64 y, .int .i64 z]) w := by
  have hp' : tmps[p]?.getD undef = .pointer (some ⟨E, 0, none⟩) := by simpa using hp
  have e0 : w.cell? ⟨E, 0, none⟩ = some (.int .i64 x) := by rw [hE.cell]; rfl
  have e1 : w.cell? ⟨E, 1, none⟩ = some (.int .i64 y) := by rw [hE.cell]; rfl
  have e2 : w.cell? ⟨E, 2, none⟩ = some (.int .i64 z) := by rw [hE.cell]; rfl
  simp [results, h, hp', go_sem, e0, e1, e2]
set_option maxHeartbeats 1000000 in
theorem at_any (x y z : Int) (w : World) : Calls Try.prog 26 #[.int .i64 x, .int .i64 y, .int .i64 z] w fun e w' => e = .returned (.agg #[.int .i64 x, .int .i64 y, .int .i64 z]) ∧ Below w.heap.size w w' := by
  go_enter Try.func26, Try.ntmps26
  go_wp2_with fail
  exact bodyPost_ret (results_loc1 rfl _ rfl (Blk.new w [.int .i64 x, .int .i64 y, .int .i64 z] 31)) rfl ⟨rfl, (Below.refl _ _).alloc (Nat.le_refl _) _⟩

/-- What gives ends with. -/
def givesOf (r : (Nat × Nat × Nat) × Nat × Sp) : Value := if r.2.1 = 0 then .agg #[.int .i64 (r.1.1 : Nat), .int .i64 (r.1.2.1 : Nat), .int .i64 (r.1.2.2 : Nat)] else .agg #[.int .i64 (-(r.2.1 : Int)), .int .i64 0, .int .i64 0]
def GivesEnds (S : Sp) (b g cap : Nat) (ms : List Nat) (n : Int) (spare : Bool) (w : World) (e : Ending) (w' : World) : Prop :=
  e = .returned (givesOf (S.alloc n spare)) ∧ SpAt w' b g cap ms (S.alloc n spare).2.2 ∧ Mod (b :: g :: ms) w w'
theorem alloc_code (S : Sp) (n : Int) (spare : Bool) : (S.alloc n spare).2.1 ≤ 7 := by
  unfold Sp.alloc
  split
  · simp
  · split
    · split
      · simp
      · split <;> simp
    · simp
set_option maxHeartbeats 2000000 in
theorem gives_any (S : Sp) (hS0 : S.Good) (hc : S.cnt < 10000) (b g cap : Nat) (ms : List Nat) (n : Int) (spare : Bool) (hn : isInt n) (w : World) (h : SpAt w b g cap ms S) :
    Calls Try.prog 25 #[.pointer (some ⟨b, 0, none⟩), .int .i64 n, .bool spare] w (GivesEnds S b g cap ms n spare w) := by
  have hR0 : Blk (w.alloc (.cells #[.int .i64 0, .int .i64 0, .int .i64 0] 31)) w.heap.size [.int .i64 0, .int .i64 0, .int .i64 0] 31 := Blk.new _ _ _
  have hb0 := (Below.refl w.heap.size w).alloc (Nat.le_refl _) (.cells #[.int .i64 0, .int .i64 0, .int .i64 0] 31)
  have h1 := h.on hb0
  have hbl := h.below
  unfold GivesEnds
  have HA := Lib.hid (fun w1 h1 => alloc_any S hS0 hc b g cap ms n spare hn w1 h1)
  have hcode := alloc_code S n spare
  unfold AllocEnds at HA
  generalize S.alloc n spare = r at *
  obtain ⟨⟨x, y, z⟩, err, S2⟩ := r
  simp only at HA hcode
  go_enter Try.func25, Try.ntmps25
  go_upto_region 1 with fail
  generalize w.alloc (.cells #[.int .i64 0, .int .i64 0, .int .i64 0] 31) = w1 at *
  go_wp2_with fail
  refine (HA.out w1 h1).mono ?_
  rintro e w2 ⟨rfl, hs2, hm2⟩
  have hR2 := hR0.mod hm2 (fun hin => by have := hbl _ hin; omega)
  have hm02 := (Mod.of_below (S := b :: g :: ms) hb0).trans hm2
  clear HA hm2 hR0 h1
  have hL : Blk (w2.alloc (.cells #[.int .i64 (x : Nat), .int .i64 (y : Nat), .int .i64 (z : Nat)] 31)) w2.heap.size [.int .i64 (x : Nat), .int .i64 (y : Nat), .int .i64 (z : Nat)] 31 := Blk.new _ _ _
  have hbL := (Below.refl w2.heap.size w2).alloc (Nat.le_refl _) (.cells #[.int .i64 (x : Nat), .int .i64 (y : Nat), .int .i64 (z : Nat)] 31)
  go_upto_region 2 with fail
  generalize w2.alloc (.cells #[.int .i64 (x : Nat), .int .i64 (y : Nat), .int .i64 (z : Nat)] 31) = w3 at *
  have hs3 := hs2.on hbL
  have hR3 := hR2.on hbL
  have hm03 := hm02.thenBelow hbL
  clear hs2 hR2 hm02 hbL
  by_cases he : err = 0
  · subst he
    have l0 : w3.cell? ⟨w2.heap.size, 0, none⟩ = some (.int .i64 (x : Nat)) := by rw [hL.cell]; rfl
    have l1 : w3.cell? ⟨w2.heap.size, 1, none⟩ = some (.int .i64 (y : Nat)) := by rw [hL.cell]; rfl
    have l2 : w3.cell? ⟨w2.heap.size, 2, none⟩ = some (.int .i64 (z : Nat)) := by rw [hL.cell]; rfl
    have r0 : w3.cell? ⟨w.heap.size, 0, none⟩ = some (.int .i64 0) := by rw [hR3.cell]; rfl
    have r1 : w3.cell? ⟨w.heap.size, 1, none⟩ = some (.int .i64 0) := by rw [hR3.cell]; rfl
    have r2 : w3.cell? ⟨w.heap.size, 2, none⟩ = some (.int .i64 0) := by rw [hR3.cell]; rfl
    have f0 := hR3.free 0
    have f1 := hR3.free 1
    have f2 := hR3.free 2
    have hRz := ((hR3.set 0 (.int .i64 (x : Nat))).set 1 (.int .i64 (y : Nat))).set 2 (.int .i64 (z : Nat))
    have hmz := ((hm03.setCell ⟨w.heap.size, 0, none⟩ (.int .i64 (x : Nat)) (.inr (Nat.le_refl _))).setCell ⟨w.heap.size, 1, none⟩ (.int .i64 (y : Nat)) (.inr (Nat.le_refl _))).setCell ⟨w.heap.size, 2, none⟩ (.int .i64 (z : Nat)) (.inr (Nat.le_refl _))
    have hm3z := (((Mod.refl [w.heap.size] w3).setCell ⟨w.heap.size, 0, none⟩ (.int .i64 (x : Nat)) (.inl (by simp))).setCell ⟨w.heap.size, 1, none⟩ (.int .i64 (y : Nat)) (.inl (by simp))).setCell ⟨w.heap.size, 2, none⟩ (.int .i64 (z : Nat)) (.inl (by simp))
    have hsz := hs3.mod hm3z (fun q hq => by have := hbl q hq; simp only [List.mem_singleton]; omega)
    clear hm3z
    go_wp2_with fail
    exact bodyPost_ret (results_loc1 rfl _ rfl hRz) rfl ⟨rfl, hsz, hmz⟩
  · have hne : ((err : Int) != 0) = true := by simp; omega
    have hwr : IntKind.i64.wrap (-(err : Int)) = -(err : Int) := IntWalk.i64_in _ (by omega)
    go_wp2_with fail
    refine (at_any (-(err : Int)) 0 0 w3).mono ?_
    rintro e w4 ⟨rfl, hb4⟩
    have hs4 := hs3.on hb4
    have hR4 := hR3.on hb4
    have hm04 := hm03.thenBelow hb4
    have r0 : w4.cell? ⟨w.heap.size, 0, none⟩ = some (.int .i64 0) := by rw [hR4.cell]; rfl
    have r1 : w4.cell? ⟨w.heap.size, 1, none⟩ = some (.int .i64 0) := by rw [hR4.cell]; rfl
    have r2 : w4.cell? ⟨w.heap.size, 2, none⟩ = some (.int .i64 0) := by rw [hR4.cell]; rfl
    have f0 := hR4.free 0
    have f1 := hR4.free 1
    have f2 := hR4.free 2
    have hRz := ((hR4.set 0 (.int .i64 (-(err : Int)))).set 1 (.int .i64 0)).set 2 (.int .i64 0)
    have hmz := ((hm04.setCell ⟨w.heap.size, 0, none⟩ (.int .i64 (-(err : Int))) (.inr (Nat.le_refl _))).setCell ⟨w.heap.size, 1, none⟩ (.int .i64 0) (.inr (Nat.le_refl _))).setCell ⟨w.heap.size, 2, none⟩ (.int .i64 0) (.inr (Nat.le_refl _))
    have hm3z := (((Mod.refl [w.heap.size] w4).setCell ⟨w.heap.size, 0, none⟩ (.int .i64 (-(err : Int))) (.inl (by simp))).setCell ⟨w.heap.size, 1, none⟩ (.int .i64 0) (.inl (by simp))).setCell ⟨w.heap.size, 2, none⟩ (.int .i64 0) (.inl (by simp))
    have hsz := hs4.mod hm3z (fun q hq => by have := hbl q hq; simp only [List.mem_singleton]; omega)
    have HV := Lib.hid (show givesOf ((x, y, z), err, S2) = .agg #[.int .i64 (-(err : Int)), .int .i64 0, .int .i64 0] from if_neg he)
    clear hm3z he
    go_wp2_with fail
    exact bodyPost_ret (results_loc1 rfl _ rfl hRz) rfl ⟨by rw [HV.out], hsz, hmz⟩

set_option maxRecDepth 10000 in
set_option maxHeartbeats 4000000 in
theorem works_any (w : World) : Calls Try.prog 10 #[] w fun e w' => e = .returned (.bool true) ∧ Below w.heap.size w w' := by
  go_enter Try.func10, Try.ntmps10
  go_wp2_with fail
  refine (new_any 3 4 (by decide) (by decide) w).mono ?_
  rintro e w0 ⟨b, g, cap, ms, rfl, hs0, hw0, hnew⟩
  change SpAt w0 b g cap ms (⟨3, 4, [], (-1), 0, 0⟩ : Sp) at hs0
  have e1 : (⟨3, 4, [], (-1), 0, 0⟩ : Sp).alloc 3 false = ((0, 0, 3), 0, ⟨3, 4, [⟨0, 0, 3⟩], 0, 3, 1⟩) := by kernel_rfl
  have hc0 := gives_any (⟨3, 4, [], (-1), 0, 0⟩ : Sp) (good_of (by decide)) (by decide) b g cap ms 3 false (by decide) w0 hs0
  unfold GivesEnds at hc0
  rw [e1] at hc0
  rw [show givesOf ((0, 0, 3), 0, ⟨3, 4, [⟨0, 0, 3⟩], 0, 3, 1⟩) = .agg #[.int .i64 0, .int .i64 0, .int .i64 3] by kernel_rfl] at hc0
  go_wp2_with fail
  refine (hc0).mono ?_
  rintro e w1 ⟨rfl, hs1, hm1⟩
  have hw1 := Mod.fresh hw0 hm1 hnew
  clear hs0 hw0 hm1
  clear hc0 e1
  go_wp2_with fail
  refine (at_any 0 0 3 w1).mono ?_
  rintro e w2 ⟨rfl, hb2⟩
  have hs2 := hs1.on hb2
  have hw2 := hw1.on hb2
  clear hs1 hw1 hb2
  have e2 : (⟨3, 4, [⟨0, 0, 3⟩], 0, 3, 1⟩ : Sp).alloc 1 false = ((0, 3, 1), 0, ⟨3, 4, [⟨0, 0, 3⟩, ⟨0, 3, 1⟩], 0, 4, 2⟩) := by kernel_rfl
  have hc2 := gives_any (⟨3, 4, [⟨0, 0, 3⟩], 0, 3, 1⟩ : Sp) (good_of (by decide)) (by decide) b g cap ms 1 false (by decide) w2 hs2
  unfold GivesEnds at hc2
  rw [e2] at hc2
  rw [show givesOf ((0, 3, 1), 0, ⟨3, 4, [⟨0, 0, 3⟩, ⟨0, 3, 1⟩], 0, 4, 2⟩) = .agg #[.int .i64 0, .int .i64 3, .int .i64 1] by kernel_rfl] at hc2
  go_wp2_with fail
  refine (hc2).mono ?_
  rintro e w3 ⟨rfl, hs3, hm3⟩
  have hw3 := Mod.fresh hw2 hm3 hnew
  clear hs2 hw2 hm3
  clear hc2 e2
  go_wp2_with fail
  refine (at_any 0 3 1 w3).mono ?_
  rintro e w4 ⟨rfl, hb4⟩
  have hs4 := hs3.on hb4
  have hw4 := hw3.on hb4
  clear hs3 hw3 hb4
  have e3 : (⟨3, 4, [⟨0, 0, 3⟩, ⟨0, 3, 1⟩], 0, 4, 2⟩ : Sp).alloc 2 false = ((1, 0, 2), 0, ⟨3, 4, [⟨0, 0, 3⟩, ⟨0, 3, 1⟩, ⟨1, 0, 2⟩], 1, 2, 3⟩) := by kernel_rfl
  have hc4 := gives_any (⟨3, 4, [⟨0, 0, 3⟩, ⟨0, 3, 1⟩], 0, 4, 2⟩ : Sp) (good_of (by decide)) (by decide) b g cap ms 2 false (by decide) w4 hs4
  unfold GivesEnds at hc4
  rw [e3] at hc4
  rw [show givesOf ((1, 0, 2), 0, ⟨3, 4, [⟨0, 0, 3⟩, ⟨0, 3, 1⟩, ⟨1, 0, 2⟩], 1, 2, 3⟩) = .agg #[.int .i64 1, .int .i64 0, .int .i64 2] by kernel_rfl] at hc4
  go_wp2_with fail
  refine (hc4).mono ?_
  rintro e w5 ⟨rfl, hs5, hm5⟩
  have hw5 := Mod.fresh hw4 hm5 hnew
  clear hs4 hw4 hm5
  clear hc4 e3
  go_wp2_with fail
  refine (at_any 1 0 2 w5).mono ?_
  rintro e w6 ⟨rfl, hb6⟩
  have hs6 := hs5.on hb6
  have hw6 := hw5.on hb6
  clear hs5 hw5 hb6
  have e4 : (⟨3, 4, [⟨0, 0, 3⟩, ⟨0, 3, 1⟩, ⟨1, 0, 2⟩], 1, 2, 3⟩ : Sp).empty = 1 := by kernel_rfl
  have hc6 := empty_any (⟨3, 4, [⟨0, 0, 3⟩, ⟨0, 3, 1⟩, ⟨1, 0, 2⟩], 1, 2, 3⟩ : Sp) b g cap ms w6 hs6 (by decide)
  rw [e4] at hc6
  go_wp2_with fail
  refine (hc6).mono ?_
  rintro e w7 ⟨rfl, hb7⟩
  have hs7 := hs6.on hb7
  have hw7 := hw6.on hb7
  clear hs6 hw6 hb7
  clear hc6 e4
  have e5 : (⟨3, 4, [⟨0, 0, 3⟩, ⟨0, 3, 1⟩, ⟨1, 0, 2⟩], 1, 2, 3⟩ : Sp).alloc 3 false = ((0, 0, 0), 7, ⟨3, 4, [⟨0, 0, 3⟩, ⟨0, 3, 1⟩, ⟨1, 0, 2⟩], 1, 2, 3⟩) := by kernel_rfl
  have hc7 := gives_any (⟨3, 4, [⟨0, 0, 3⟩, ⟨0, 3, 1⟩, ⟨1, 0, 2⟩], 1, 2, 3⟩ : Sp) (good_of (by decide)) (by decide) b g cap ms 3 false (by decide) w7 hs7
  unfold GivesEnds at hc7
  rw [e5] at hc7
  rw [show givesOf ((0, 0, 0), 7, ⟨3, 4, [⟨0, 0, 3⟩, ⟨0, 3, 1⟩, ⟨1, 0, 2⟩], 1, 2, 3⟩) = .agg #[.int .i64 (-7), .int .i64 0, .int .i64 0] by kernel_rfl] at hc7
  go_wp2_with fail
  refine (hc7).mono ?_
  rintro e w8 ⟨rfl, hs8, hm8⟩
  have hw8 := Mod.fresh hw7 hm8 hnew
  clear hs7 hw7 hm8
  clear hc7 e5
  go_wp2_with fail
  refine (at_any (-7) 0 0 w8).mono ?_
  rintro e w9 ⟨rfl, hb9⟩
  have hs9 := hs8.on hb9
  have hw9 := hw8.on hb9
  clear hs8 hw8 hb9
  have e6 : (⟨3, 4, [⟨0, 0, 3⟩, ⟨0, 3, 1⟩, ⟨1, 0, 2⟩], 1, 2, 3⟩ : Sp).alloc 3 true = ((2, 0, 3), 0, ⟨3, 4, [⟨0, 0, 3⟩, ⟨0, 3, 1⟩, ⟨1, 0, 2⟩, ⟨2, 0, 3⟩], 2, 3, 4⟩) := by kernel_rfl
  have hc9 := gives_any (⟨3, 4, [⟨0, 0, 3⟩, ⟨0, 3, 1⟩, ⟨1, 0, 2⟩], 1, 2, 3⟩ : Sp) (good_of (by decide)) (by decide) b g cap ms 3 true (by decide) w9 hs9
  unfold GivesEnds at hc9
  rw [e6] at hc9
  rw [show givesOf ((2, 0, 3), 0, ⟨3, 4, [⟨0, 0, 3⟩, ⟨0, 3, 1⟩, ⟨1, 0, 2⟩, ⟨2, 0, 3⟩], 2, 3, 4⟩) = .agg #[.int .i64 2, .int .i64 0, .int .i64 3] by kernel_rfl] at hc9
  go_wp2_with fail
  refine (hc9).mono ?_
  rintro e w10 ⟨rfl, hs10, hm10⟩
  have hw10 := Mod.fresh hw9 hm10 hnew
  clear hs9 hw9 hm10
  clear hc9 e6
  go_wp2_with fail
  refine (at_any 2 0 3 w10).mono ?_
  rintro e w11 ⟨rfl, hb11⟩
  have hs11 := hs10.on hb11
  have hw11 := hw10.on hb11
  clear hs10 hw10 hb11
  have e7 : (⟨3, 4, [⟨0, 0, 3⟩, ⟨0, 3, 1⟩, ⟨1, 0, 2⟩, ⟨2, 0, 3⟩], 2, 3, 4⟩ : Sp).empty = 0 := by kernel_rfl
  have hc11 := empty_any (⟨3, 4, [⟨0, 0, 3⟩, ⟨0, 3, 1⟩, ⟨1, 0, 2⟩, ⟨2, 0, 3⟩], 2, 3, 4⟩ : Sp) b g cap ms w11 hs11 (by decide)
  rw [e7] at hc11
  go_wp2_with fail
  refine (hc11).mono ?_
  rintro e w12 ⟨rfl, hb12⟩
  have hs12 := hs11.on hb12
  have hw12 := hw11.on hb12
  clear hs11 hw11 hb12
  clear hc11 e7
  have e8 : (⟨3, 4, [⟨0, 0, 3⟩, ⟨0, 3, 1⟩, ⟨1, 0, 2⟩, ⟨2, 0, 3⟩], 2, 3, 4⟩ : Sp).victim = some 1 := by kernel_rfl
  have hc12 := victim_any (⟨3, 4, [⟨0, 0, 3⟩, ⟨0, 3, 1⟩, ⟨1, 0, 2⟩, ⟨2, 0, 3⟩], 2, 3, 4⟩ : Sp) b g cap ms w12 hs12 (by decide) (by decide)
  rw [e8] at hc12
  go_wp2_with fail
  refine (hc12).mono ?_
  rintro e w13 ⟨rfl, hb13⟩
  have hs13 := hs12.on hb13
  have hw13 := hw12.on hb13
  clear hs12 hw12 hb13
  clear hc12 e8
  go_wp2_with fail
  refine (at_any 0 0 3 w13).mono ?_
  rintro e w14 ⟨rfl, hb14⟩
  have hs14 := hs13.on hb14
  have hw14 := hw13.on hb14
  clear hs13 hw13 hb14
  have e9 : (⟨3, 4, [⟨0, 0, 3⟩, ⟨0, 3, 1⟩, ⟨1, 0, 2⟩, ⟨2, 0, 3⟩], 2, 3, 4⟩ : Sp).drop 0 0 3 = (0, ⟨3, 4, [⟨0, 3, 1⟩, ⟨1, 0, 2⟩, ⟨2, 0, 3⟩], 2, 3, 4⟩) := by kernel_rfl
  have hc14 := free_any (⟨3, 4, [⟨0, 0, 3⟩, ⟨0, 3, 1⟩, ⟨1, 0, 2⟩, ⟨2, 0, 3⟩], 2, 3, 4⟩ : Sp) (good_of (by decide)) (by decide) b g cap ms 0 0 3 (by decide) (by decide) (by decide) w14 hs14
  unfold FreeEnds at hc14
  rw [e9] at hc14
  go_wp2_with fail
  refine (hc14).mono ?_
  rintro e w15 ⟨rfl, hs15, hm15⟩
  have hw15 := Mod.fresh hw14 hm15 hnew
  clear hs14 hw14 hm15
  clear hc14 e9
  have e10 : (⟨3, 4, [⟨0, 3, 1⟩, ⟨1, 0, 2⟩, ⟨2, 0, 3⟩], 2, 3, 4⟩ : Sp).liveOf 0 = 1 := by kernel_rfl
  go_wp2_with fail
  have hc15 := live_any (⟨3, 4, [⟨0, 3, 1⟩, ⟨1, 0, 2⟩, ⟨2, 0, 3⟩], 2, 3, 4⟩ : Sp) b g cap ms 0 w15 hs15 (by decide)
  rw [e10] at hc15
  refine hc15.mono ?_
  rintro e wz ⟨rfl, rfl⟩
  clear hc15 e10
  have e11 : (⟨3, 4, [⟨0, 3, 1⟩, ⟨1, 0, 2⟩, ⟨2, 0, 3⟩], 2, 3, 4⟩ : Sp).victim = some 0 := by kernel_rfl
  have hc15 := victim_any (⟨3, 4, [⟨0, 3, 1⟩, ⟨1, 0, 2⟩, ⟨2, 0, 3⟩], 2, 3, 4⟩ : Sp) b g cap ms w15 hs15 (by decide) (by decide)
  rw [e11] at hc15
  go_wp2_with fail
  refine (hc15).mono ?_
  rintro e w16 ⟨rfl, hb16⟩
  have hs16 := hs15.on hb16
  have hw16 := hw15.on hb16
  clear hs15 hw15 hb16
  clear hc15 e11
  go_wp2_with fail
  refine (at_any 0 3 1 w16).mono ?_
  rintro e w17 ⟨rfl, hb17⟩
  have hs17 := hs16.on hb17
  have hw17 := hw16.on hb17
  clear hs16 hw16 hb17
  have e12 : (⟨3, 4, [⟨0, 3, 1⟩, ⟨1, 0, 2⟩, ⟨2, 0, 3⟩], 2, 3, 4⟩ : Sp).drop 0 3 1 = (0, ⟨3, 4, [⟨1, 0, 2⟩, ⟨2, 0, 3⟩], 2, 3, 4⟩) := by kernel_rfl
  have hc17 := free_any (⟨3, 4, [⟨0, 3, 1⟩, ⟨1, 0, 2⟩, ⟨2, 0, 3⟩], 2, 3, 4⟩ : Sp) (good_of (by decide)) (by decide) b g cap ms 0 3 1 (by decide) (by decide) (by decide) w17 hs17
  unfold FreeEnds at hc17
  rw [e12] at hc17
  go_wp2_with fail
  refine (hc17).mono ?_
  rintro e w18 ⟨rfl, hs18, hm18⟩
  have hw18 := Mod.fresh hw17 hm18 hnew
  clear hs17 hw17 hm18
  clear hc17 e12
  have e13 : (⟨3, 4, [⟨1, 0, 2⟩, ⟨2, 0, 3⟩], 2, 3, 4⟩ : Sp).empty = 1 := by kernel_rfl
  have hc18 := empty_any (⟨3, 4, [⟨1, 0, 2⟩, ⟨2, 0, 3⟩], 2, 3, 4⟩ : Sp) b g cap ms w18 hs18 (by decide)
  rw [e13] at hc18
  go_wp2_with fail
  refine (hc18).mono ?_
  rintro e w19 ⟨rfl, hb19⟩
  have hs19 := hs18.on hb19
  have hw19 := hw18.on hb19
  clear hs18 hw18 hb19
  clear hc18 e13
  go_wp2_with fail
  refine (at_any 0 3 1 w19).mono ?_
  rintro e w20 ⟨rfl, hb20⟩
  have hs20 := hs19.on hb20
  have hw20 := hw19.on hb20
  clear hs19 hw19 hb20
  have e14 : (⟨3, 4, [⟨1, 0, 2⟩, ⟨2, 0, 3⟩], 2, 3, 4⟩ : Sp).drop 0 3 1 = (5, ⟨3, 4, [⟨1, 0, 2⟩, ⟨2, 0, 3⟩], 2, 3, 4⟩) := by kernel_rfl
  have hc20 := free_any (⟨3, 4, [⟨1, 0, 2⟩, ⟨2, 0, 3⟩], 2, 3, 4⟩ : Sp) (good_of (by decide)) (by decide) b g cap ms 0 3 1 (by decide) (by decide) (by decide) w20 hs20
  unfold FreeEnds at hc20
  rw [e14] at hc20
  go_wp2_with fail
  refine (hc20).mono ?_
  rintro e w21 ⟨rfl, hs21, hm21⟩
  have hw21 := Mod.fresh hw20 hm21 hnew
  clear hs20 hw20 hm21
  clear hc20 e14
  go_wp2_with fail
  refine (at_any 0 1 2 w21).mono ?_
  rintro e w22 ⟨rfl, hb22⟩
  have hs22 := hs21.on hb22
  have hw22 := hw21.on hb22
  clear hs21 hw21 hb22
  have e15 : (⟨3, 4, [⟨1, 0, 2⟩, ⟨2, 0, 3⟩], 2, 3, 4⟩ : Sp).take 0 1 2 = (0, ⟨3, 4, [⟨1, 0, 2⟩, ⟨2, 0, 3⟩, ⟨0, 1, 2⟩], 2, 3, 5⟩) := by kernel_rfl
  have hc22 := take_any (⟨3, 4, [⟨1, 0, 2⟩, ⟨2, 0, 3⟩], 2, 3, 4⟩ : Sp) (good_of (by decide)) (by decide) b g cap ms 0 1 2 (by decide) (by decide) (by decide) w22 hs22
  unfold TakeEnds at hc22
  rw [e15] at hc22
  go_wp2_with fail
  refine (hc22).mono ?_
  rintro e w23 ⟨rfl, hs23, hm23⟩
  have hw23 := Mod.fresh hw22 hm23 hnew
  clear hs22 hw22 hm23
  clear hc22 e15
  go_wp2_with fail
  refine (at_any 0 2 1 w23).mono ?_
  rintro e w24 ⟨rfl, hb24⟩
  have hs24 := hs23.on hb24
  have hw24 := hw23.on hb24
  clear hs23 hw23 hb24
  have e16 : (⟨3, 4, [⟨1, 0, 2⟩, ⟨2, 0, 3⟩, ⟨0, 1, 2⟩], 2, 3, 5⟩ : Sp).take 0 2 1 = (2, ⟨3, 4, [⟨1, 0, 2⟩, ⟨2, 0, 3⟩, ⟨0, 1, 2⟩], 2, 3, 5⟩) := by kernel_rfl
  have hc24 := take_any (⟨3, 4, [⟨1, 0, 2⟩, ⟨2, 0, 3⟩, ⟨0, 1, 2⟩], 2, 3, 5⟩ : Sp) (good_of (by decide)) (by decide) b g cap ms 0 2 1 (by decide) (by decide) (by decide) w24 hs24
  unfold TakeEnds at hc24
  rw [e16] at hc24
  go_wp2_with fail
  refine (hc24).mono ?_
  rintro e w25 ⟨rfl, hs25, hm25⟩
  have hw25 := Mod.fresh hw24 hm25 hnew
  clear hs24 hw24 hm25
  clear hc24 e16
  go_wp2_with fail
  refine (at_any 2 3 1 w25).mono ?_
  rintro e w26 ⟨rfl, hb26⟩
  have hs26 := hs25.on hb26
  have hw26 := hw25.on hb26
  clear hs25 hw25 hb26
  have e17 : (⟨3, 4, [⟨1, 0, 2⟩, ⟨2, 0, 3⟩, ⟨0, 1, 2⟩], 2, 3, 5⟩ : Sp).take 2 3 1 = (2, ⟨3, 4, [⟨1, 0, 2⟩, ⟨2, 0, 3⟩, ⟨0, 1, 2⟩], 2, 3, 5⟩) := by kernel_rfl
  have hc26 := take_any (⟨3, 4, [⟨1, 0, 2⟩, ⟨2, 0, 3⟩, ⟨0, 1, 2⟩], 2, 3, 5⟩ : Sp) (good_of (by decide)) (by decide) b g cap ms 2 3 1 (by decide) (by decide) (by decide) w26 hs26
  unfold TakeEnds at hc26
  rw [e17] at hc26
  go_wp2_with fail
  refine (hc26).mono ?_
  rintro e w27 ⟨rfl, hs27, hm27⟩
  have hw27 := Mod.fresh hw26 hm27 hnew
  clear hs26 hw26 hm27
  clear hc26 e17
  go_wp2_with fail
  go_ret
  exact ⟨rfl, hw27⟩
end Go.Proofs.Ytmicpjdlldjapaa
