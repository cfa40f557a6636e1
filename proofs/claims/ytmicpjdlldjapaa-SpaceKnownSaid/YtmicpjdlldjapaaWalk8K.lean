/-
  The walk of SpaceKnown. No condition.
-/
import Derived.Test.YtmicpjdlldjapaaSpZ
import Derived.Test.YtmicpjdlldjapaaSpTk
import Derived.Test.YtmicpjdlldjapaaSettleF
namespace Go.Proofs.Ytmicpjdlldjapaa
set_option linter.unusedVariables false
set_option linter.unusedSimpArgs false
open Go.RowKit

/-- Pieces that are none, of a space of two segments of two sectors. -/
def badPcs : List (Int × Int × Int) := [(2, 0, 1), ((-1), 0, 1), (0, (-1), 1), (0, 2, 1), (0, 1, 2), (0, 0, 0), (0, 0, (-1)), (0, 4611686018427387904, 4611686018427387904), (0, 1, 4611686018427387904)]
theorem bad_take : ∀ q ∈ badPcs, isInt q.1 ∧ isInt q.2.1 ∧ isInt q.2.2 ∧ (Sp.new 2 2).take q.1 q.2.1 q.2.2 = (2, Sp.new 2 2) := by
  intro q hq
  simp only [badPcs, List.mem_cons, List.not_mem_nil, or_false] at hq
  rcases hq with rfl | rfl | rfl | rfl | rfl | rfl | rfl | rfl | rfl <;> refine ⟨?_, ?_, ?_, ?_⟩ <;> first | decide | (unfold Sp.take; rw [if_neg]; unfold Sp.may; simp [Sp.new])
theorem bad_cells : ∀ (i : Nat) (q : Int × Int × Int), badPcs[i]? = some q → ([.int .i64 2, .int .i64 0, .int .i64 1, .int .i64 (-1), .int .i64 0, .int .i64 1, .int .i64 0, .int .i64 (-1), .int .i64 1, .int .i64 0, .int .i64 2, .int .i64 1, .int .i64 0, .int .i64 1, .int .i64 2, .int .i64 0, .int .i64 0, .int .i64 0, .int .i64 0, .int .i64 0, .int .i64 (-1), .int .i64 0, .int .i64 4611686018427387904, .int .i64 4611686018427387904, .int .i64 0, .int .i64 1, .int .i64 4611686018427387904] : List Value)[i * 3]? = some (.int .i64 q.1) ∧ ([.int .i64 2, .int .i64 0, .int .i64 1, .int .i64 (-1), .int .i64 0, .int .i64 1, .int .i64 0, .int .i64 (-1), .int .i64 1, .int .i64 0, .int .i64 2, .int .i64 1, .int .i64 0, .int .i64 1, .int .i64 2, .int .i64 0, .int .i64 0, .int .i64 0, .int .i64 0, .int .i64 0, .int .i64 (-1), .int .i64 0, .int .i64 4611686018427387904, .int .i64 4611686018427387904, .int .i64 0, .int .i64 1, .int .i64 4611686018427387904] : List Value)[i * 3 + 1]? = some (.int .i64 q.2.1) ∧ ([.int .i64 2, .int .i64 0, .int .i64 1, .int .i64 (-1), .int .i64 0, .int .i64 1, .int .i64 0, .int .i64 (-1), .int .i64 1, .int .i64 0, .int .i64 2, .int .i64 1, .int .i64 0, .int .i64 1, .int .i64 2, .int .i64 0, .int .i64 0, .int .i64 0, .int .i64 0, .int .i64 0, .int .i64 (-1), .int .i64 0, .int .i64 4611686018427387904, .int .i64 4611686018427387904, .int .i64 0, .int .i64 1, .int .i64 4611686018427387904] : List Value)[i * 3 + 2]? = some (.int .i64 q.2.2) := by
  intro i q hq
  match i, hq with
  | 0, hq => cases hq; exact ⟨rfl, rfl, rfl⟩
  | 1, hq => cases hq; exact ⟨rfl, rfl, rfl⟩
  | 2, hq => cases hq; exact ⟨rfl, rfl, rfl⟩
  | 3, hq => cases hq; exact ⟨rfl, rfl, rfl⟩
  | 4, hq => cases hq; exact ⟨rfl, rfl, rfl⟩
  | 5, hq => cases hq; exact ⟨rfl, rfl, rfl⟩
  | 6, hq => cases hq; exact ⟨rfl, rfl, rfl⟩
  | 7, hq => cases hq; exact ⟨rfl, rfl, rfl⟩
  | 8, hq => cases hq; exact ⟨rfl, rfl, rfl⟩
  | n + 9, hq => cases hq

set_option maxRecDepth 100000 in
set_option maxHeartbeats 4000000 in
theorem known_law (w : World) : Calls Try.prog 7 #[] w fun e w' => e = .returned (.bool true) ∧ Below w.heap.size w w' := by
  go_enter Try.func7, Try.ntmps7
  go_wp2_with fail
  refine (new_any 2 2 (by decide) (by decide) w).mono ?_
  rintro e w0 ⟨b, g, cap, ms, rfl, hs0, hw0, hnew⟩
  change SpAt w0 b g cap ms (⟨2, 2, [], (-1), 0, 0⟩ : Sp) at hs0
  have hlt0 : ∀ x ∈ b :: g :: ms, x < w0.heap.size := hs0.below
  have hsz0 := Nat.le_refl w0.heap.size
  generalize hB : w0.heap.size = B at hlt0 hsz0
  replace hsz0 : B ≤ w0.heap.size := by rw [hB]; exact Nat.le_refl _
  clear hB
  have e1 : (⟨2, 2, [], (-1), 0, 0⟩ : Sp).alloc 0 true = ((0, 0, 0), 2, ⟨2, 2, [], (-1), 0, 0⟩) := by kernel_rfl
  have hc := alloc_any (⟨2, 2, [], (-1), 0, 0⟩ : Sp) (good_of (by decide)) (by decide) b g cap ms 0 true (by decide) w0 hs0
  unfold AllocEnds at hc
  rw [e1] at hc
  go_wp2_with fail
  refine (hc).mono ?_
  rintro e w1 ⟨rfl, hs1, hm1⟩
  have hw1 := Mod.fresh hw0 hm1 hnew
  have hsz1 := Nat.le_trans hsz0 hm1.size
  clear hs0 hw0 hsz0 hm1
  clear hc e1
  go_upto_region 6 with fail
  have hbX1 := (Below.refl w1.heap.size w1).alloc (Nat.le_refl _) (.cells #[.int .i64 0, .int .i64 0, .int .i64 0] 31)
  generalize w1.alloc (.cells #[.int .i64 0, .int .i64 0, .int .i64 0] 31) = w2 at *
  have hs2 := hs1.on hbX1
  have hw2 := hw1.on hbX1
  have hsz2 := Nat.le_trans hsz1 hbX1.size
  clear hs1 hw1 hsz1 hbX1
  have e2 : (⟨2, 2, [], (-1), 0, 0⟩ : Sp).alloc 3 true = ((0, 0, 0), 2, ⟨2, 2, [], (-1), 0, 0⟩) := by kernel_rfl
  have hc := alloc_any (⟨2, 2, [], (-1), 0, 0⟩ : Sp) (good_of (by decide)) (by decide) b g cap ms 3 true (by decide) w2 hs2
  unfold AllocEnds at hc
  rw [e2] at hc
  go_wp2_with fail
  refine (hc).mono ?_
  rintro e w3 ⟨rfl, hs3, hm3⟩
  have hw3 := Mod.fresh hw2 hm3 hnew
  have hsz3 := Nat.le_trans hsz2 hm3.size
  clear hs2 hw2 hsz2 hm3
  clear hc e2
  go_upto_region 7 with fail
  have hbX3 := (Below.refl w3.heap.size w3).alloc (Nat.le_refl _) (.cells #[.int .i64 0, .int .i64 0, .int .i64 0] 31)
  generalize w3.alloc (.cells #[.int .i64 0, .int .i64 0, .int .i64 0] 31) = w4 at *
  have hs4 := hs3.on hbX3
  have hw4 := hw3.on hbX3
  have hsz4 := Nat.le_trans hsz3 hbX3.size
  clear hs3 hw3 hsz3 hbX3
  have e3 : (⟨2, 2, [], (-1), 0, 0⟩ : Sp).alloc 2 false = ((0, 0, 2), 0, ⟨2, 2, [⟨0, 0, 2⟩], 0, 2, 1⟩) := by kernel_rfl
  have hc := gives_any (⟨2, 2, [], (-1), 0, 0⟩ : Sp) (good_of (by decide)) (by decide) b g cap ms 2 false (by decide) w4 hs4
  unfold GivesEnds at hc
  rw [e3] at hc
  rw [show givesOf ((0, 0, 2), 0, ⟨2, 2, [⟨0, 0, 2⟩], 0, 2, 1⟩) = .agg #[.int .i64 0, .int .i64 0, .int .i64 2] by kernel_rfl] at hc
  go_wp2_with fail
  refine (hc).mono ?_
  rintro e w5 ⟨rfl, hs5, hm5⟩
  have hw5 := Mod.fresh hw4 hm5 hnew
  have hsz5 := Nat.le_trans hsz4 hm5.size
  clear hs4 hw4 hsz4 hm5
  clear hc e3
  go_upto_region 8 with fail
  have hX5 : Blk (w5.alloc (.cells #[.int .i64 0, .int .i64 0, .int .i64 2] 31)) w5.heap.size [.int .i64 0, .int .i64 0, .int .i64 2] 31 := Blk.new _ _ _
  have hgeC : B ≤ w5.heap.size := hsz5
  have hbX5 := (Below.refl w5.heap.size w5).alloc (Nat.le_refl _) (.cells #[.int .i64 0, .int .i64 0, .int .i64 2] 31)
  generalize w5.alloc (.cells #[.int .i64 0, .int .i64 0, .int .i64 2] 31) = w6 at *
  have hs6 := hs5.on hbX5
  have hw6 := hw5.on hbX5
  have hsz6 := Nat.le_trans hsz5 hbX5.size
  have hC6 := hX5
  clear hs5 hw5 hsz5 hbX5 hX5
  generalize w5.heap.size = C at *
  have e4 : (⟨2, 2, [⟨0, 0, 2⟩], 0, 2, 1⟩ : Sp).drop 0 0 2 = (0, ⟨2, 2, [], 0, 2, 1⟩) := by kernel_rfl
  have c0 : w6.cell? ⟨C, 0, none⟩ = some (.int .i64 0) := by rw [hC6.cell]; rfl
  have c1 : w6.cell? ⟨C, 1, none⟩ = some (.int .i64 0) := by rw [hC6.cell]; rfl
  have c2 : w6.cell? ⟨C, 2, none⟩ = some (.int .i64 2) := by rw [hC6.cell]; rfl
  have hc := free_any (⟨2, 2, [⟨0, 0, 2⟩], 0, 2, 1⟩ : Sp) (good_of (by decide)) (by decide) b g cap ms 0 0 2 (by decide) (by decide) (by decide) w6 hs6
  unfold FreeEnds at hc
  rw [e4] at hc
  go_wp2_with fail
  refine (hc).mono ?_
  rintro e w7 ⟨rfl, hs7, hm7⟩
  have hw7 := Mod.fresh hw6 hm7 hnew
  have hsz7 := Nat.le_trans hsz6 hm7.size
  have hC7 := hC6.mod hm7 (fun hx => by have := hlt0 _ hx; omega)
  clear hC6
  clear hs6 hw6 hsz6 hm7
  clear hc e4 c0 c1 c2
  go_upto_region 9 with fail
  have e5 : (⟨2, 2, [], 0, 2, 1⟩ : Sp).alloc 2 false = ((0, 0, 2), 0, ⟨2, 2, [⟨0, 0, 2⟩], 0, 2, 2⟩) := by kernel_rfl
  have hc := gives_any (⟨2, 2, [], 0, 2, 1⟩ : Sp) (good_of (by decide)) (by decide) b g cap ms 2 false (by decide) w7 hs7
  unfold GivesEnds at hc
  rw [e5] at hc
  rw [show givesOf ((0, 0, 2), 0, ⟨2, 2, [⟨0, 0, 2⟩], 0, 2, 2⟩) = .agg #[.int .i64 0, .int .i64 0, .int .i64 2] by kernel_rfl] at hc
  go_wp2_with fail
  refine (hc).mono ?_
  rintro e w8 ⟨rfl, hs8, hm8⟩
  have hw8 := Mod.fresh hw7 hm8 hnew
  have hsz8 := Nat.le_trans hsz7 hm8.size
  have hC8 := hC7.mod hm8 (fun hx => by have := hlt0 _ hx; omega)
  clear hC7
  clear hs7 hw7 hsz7 hm8
  clear hc e5
  go_upto_region 10 with fail
  have hX8 : Blk (w8.alloc (.cells #[.int .i64 0, .int .i64 0, .int .i64 2] 31)) w8.heap.size [.int .i64 0, .int .i64 0, .int .i64 2] 31 := Blk.new _ _ _
  have hgeD : B ≤ w8.heap.size := hsz8
  have hbX8 := (Below.refl w8.heap.size w8).alloc (Nat.le_refl _) (.cells #[.int .i64 0, .int .i64 0, .int .i64 2] 31)
  generalize w8.alloc (.cells #[.int .i64 0, .int .i64 0, .int .i64 2] 31) = w9 at *
  have hs9 := hs8.on hbX8
  have hw9 := hw8.on hbX8
  have hsz9 := Nat.le_trans hsz8 hbX8.size
  have hC9 := hC8.on hbX8
  clear hC8
  have hD9 := hX8
  clear hs8 hw8 hsz8 hbX8 hX8
  generalize w8.heap.size = D at *
  have e6 : (⟨2, 2, [⟨0, 0, 2⟩], 0, 2, 2⟩ : Sp).alloc 1 false = ((0, 0, 0), 7, ⟨2, 2, [⟨0, 0, 2⟩], 0, 2, 2⟩) := by kernel_rfl
  have hc := gives_any (⟨2, 2, [⟨0, 0, 2⟩], 0, 2, 2⟩ : Sp) (good_of (by decide)) (by decide) b g cap ms 1 false (by decide) w9 hs9
  unfold GivesEnds at hc
  rw [e6] at hc
  rw [show givesOf ((0, 0, 0), 7, ⟨2, 2, [⟨0, 0, 2⟩], 0, 2, 2⟩) = .agg #[.int .i64 (-7), .int .i64 0, .int .i64 0] by kernel_rfl] at hc
  go_wp2_with fail
  refine (hc).mono ?_
  rintro e w10 ⟨rfl, hs10, hm10⟩
  have hw10 := Mod.fresh hw9 hm10 hnew
  have hsz10 := Nat.le_trans hsz9 hm10.size
  have hC10 := hC9.mod hm10 (fun hx => by have := hlt0 _ hx; omega)
  have hD10 := hD9.mod hm10 (fun hx => by have := hlt0 _ hx; omega)
  clear hC9 hD9
  clear hs9 hw9 hsz9 hm10
  clear hc e6
  go_upto_region 11 with fail
  have hX10 : Blk (w10.alloc (.cells #[.int .i64 (-7), .int .i64 0, .int .i64 0] 31)) w10.heap.size [.int .i64 (-7), .int .i64 0, .int .i64 0] 31 := Blk.new _ _ _
  have hgeE : B ≤ w10.heap.size := hsz10
  have hbX10 := (Below.refl w10.heap.size w10).alloc (Nat.le_refl _) (.cells #[.int .i64 (-7), .int .i64 0, .int .i64 0] 31)
  generalize w10.alloc (.cells #[.int .i64 (-7), .int .i64 0, .int .i64 0] 31) = w11 at *
  have hs11 := hs10.on hbX10
  have hw11 := hw10.on hbX10
  have hsz11 := Nat.le_trans hsz10 hbX10.size
  have hC11 := hC10.on hbX10
  have hD11 := hD10.on hbX10
  clear hC10 hD10
  have hE11 := hX10
  clear hs10 hw10 hsz10 hbX10 hX10
  generalize w10.heap.size = E at *
  have e7 : (⟨2, 2, [⟨0, 0, 2⟩], 0, 2, 2⟩ : Sp).alloc 1 true = ((1, 0, 1), 0, ⟨2, 2, [⟨0, 0, 2⟩, ⟨1, 0, 1⟩], 1, 1, 3⟩) := by kernel_rfl
  have hc := gives_any (⟨2, 2, [⟨0, 0, 2⟩], 0, 2, 2⟩ : Sp) (good_of (by decide)) (by decide) b g cap ms 1 true (by decide) w11 hs11
  unfold GivesEnds at hc
  rw [e7] at hc
  rw [show givesOf ((1, 0, 1), 0, ⟨2, 2, [⟨0, 0, 2⟩, ⟨1, 0, 1⟩], 1, 1, 3⟩) = .agg #[.int .i64 1, .int .i64 0, .int .i64 1] by kernel_rfl] at hc
  go_wp2_with fail
  refine (hc).mono ?_
  rintro e w12 ⟨rfl, hs12, hm12⟩
  have hw12 := Mod.fresh hw11 hm12 hnew
  have hsz12 := Nat.le_trans hsz11 hm12.size
  have hC12 := hC11.mod hm12 (fun hx => by have := hlt0 _ hx; omega)
  have hD12 := hD11.mod hm12 (fun hx => by have := hlt0 _ hx; omega)
  have hE12 := hE11.mod hm12 (fun hx => by have := hlt0 _ hx; omega)
  clear hC11 hD11 hE11
  clear hs11 hw11 hsz11 hm12
  clear hc e7
  go_upto_region 12 with fail
  have hX12 : Blk (w12.alloc (.cells #[.int .i64 1, .int .i64 0, .int .i64 1] 31)) w12.heap.size [.int .i64 1, .int .i64 0, .int .i64 1] 31 := Blk.new _ _ _
  have hgeF : B ≤ w12.heap.size := hsz12
  have hbX12 := (Below.refl w12.heap.size w12).alloc (Nat.le_refl _) (.cells #[.int .i64 1, .int .i64 0, .int .i64 1] 31)
  generalize w12.alloc (.cells #[.int .i64 1, .int .i64 0, .int .i64 1] 31) = w13 at *
  have hs13 := hs12.on hbX12
  have hw13 := hw12.on hbX12
  have hsz13 := Nat.le_trans hsz12 hbX12.size
  have hC13 := hC12.on hbX12
  have hD13 := hD12.on hbX12
  have hE13 := hE12.on hbX12
  clear hC12 hD12 hE12
  have hF13 := hX12
  clear hs12 hw12 hsz12 hbX12 hX12
  generalize w12.heap.size = F at *
  go_wp2_with fail
  refine (copy_any (⟨2, 2, [⟨0, 0, 2⟩, ⟨1, 0, 1⟩], 1, 1, 3⟩ : Sp) b g cap ms w13 hs13 (by decide)).mono ?_
  rintro e w14 ⟨b3, g3, cap3, ms3, rfl, hcp14, hbc, hge3⟩
  have hs14 := hs13.on hbc
  have hw14 := hw13.on hbc
  have hsz14 := Nat.le_trans hsz13 hbc.size
  have hdis : ∀ x ∈ b3 :: g3 :: ms3, x ∉ b :: g :: ms := fun x hx hy => by have := hge3 x hx; have := hlt0 x hy; omega
  have hC14 := hC13.on hbc
  have hD14 := hD13.on hbc
  have hE14 := hE13.on hbc
  have hF14 := hF13.on hbc
  clear hC13 hD13 hE13 hF13
  clear hs13 hw13 hsz13 hbc hge3
  go_upto_region 13 with fail
  have e8 : (⟨2, 2, [⟨0, 0, 2⟩, ⟨1, 0, 1⟩], 1, 1, 3⟩ : Sp).drop 1 0 1 = (0, ⟨2, 2, [⟨0, 0, 2⟩], 1, 1, 3⟩) := by kernel_rfl
  have c0 : w14.cell? ⟨F, 0, none⟩ = some (.int .i64 1) := by rw [hF14.cell]; rfl
  have c1 : w14.cell? ⟨F, 1, none⟩ = some (.int .i64 0) := by rw [hF14.cell]; rfl
  have c2 : w14.cell? ⟨F, 2, none⟩ = some (.int .i64 1) := by rw [hF14.cell]; rfl
  have hc := free_any (⟨2, 2, [⟨0, 0, 2⟩, ⟨1, 0, 1⟩], 1, 1, 3⟩ : Sp) (good_of (by decide)) (by decide) b g cap ms 1 0 1 (by decide) (by decide) (by decide) w14 hs14
  unfold FreeEnds at hc
  rw [e8] at hc
  go_wp2_with fail
  refine hc.mono ?_
  rintro e w15 ⟨rfl, hs15, hm15⟩
  have hcp15 := hcp14.mod hm15 hdis
  have hw15 := Mod.fresh hw14 hm15 hnew
  have hC15 := hC14.mod hm15 (fun hx => by have := hlt0 _ hx; omega)
  have hD15 := hD14.mod hm15 (fun hx => by have := hlt0 _ hx; omega)
  have hE15 := hE14.mod hm15 (fun hx => by have := hlt0 _ hx; omega)
  have hF15 := hF14.mod hm15 (fun hx => by have := hlt0 _ hx; omega)
  clear hC14 hD14 hE14 hF14
  clear hs14 hw14 hsz14 hm15 hcp14 hc e8 c0 c1 c2
  go_upto_region 14 with fail
  have hb15 := Below.refl w15.heap.size w15
  go_wp2_with fail
  refine (at_any 2 0 1 w15).mono ?_
  rintro e w16 ⟨rfl, hba⟩
  have hb16 := hb15.on hba
  clear hba hb15
  go_wp2_with fail
  refine (at_any (-1) 0 1 w16).mono ?_
  rintro e w17 ⟨rfl, hba⟩
  have hb17 := hb16.on hba
  clear hba hb16
  go_wp2_with fail
  refine (at_any 0 (-1) 1 w17).mono ?_
  rintro e w18 ⟨rfl, hba⟩
  have hb18 := hb17.on hba
  clear hba hb17
  go_wp2_with fail
  refine (at_any 0 2 1 w18).mono ?_
  rintro e w19 ⟨rfl, hba⟩
  have hb19 := hb18.on hba
  clear hba hb18
  go_wp2_with fail
  refine (at_any 0 1 2 w19).mono ?_
  rintro e w20 ⟨rfl, hba⟩
  have hb20 := hb19.on hba
  clear hba hb19
  go_wp2_with fail
  refine (at_any 0 0 0 w20).mono ?_
  rintro e w21 ⟨rfl, hba⟩
  have hb21 := hb20.on hba
  clear hba hb20
  go_wp2_with fail
  refine (at_any 0 0 (-1) w21).mono ?_
  rintro e w22 ⟨rfl, hba⟩
  have hb22 := hb21.on hba
  clear hba hb21
  go_wp2_with fail
  refine (at_any 0 4611686018427387904 4611686018427387904 w22).mono ?_
  rintro e w23 ⟨rfl, hba⟩
  have hb23 := hb22.on hba
  clear hba hb22
  go_wp2_with fail
  refine (at_any 0 1 4611686018427387904 w23).mono ?_
  rintro e w24 ⟨rfl, hba⟩
  have hb24 := hb23.on hba
  clear hba hb23
  go_upto_region 15 with fail
  have hN : Blk (w24.alloc (.cells #[.int .i64 2, .int .i64 0, .int .i64 1, .int .i64 (-1), .int .i64 0, .int .i64 1, .int .i64 0, .int .i64 (-1), .int .i64 1, .int .i64 0, .int .i64 2, .int .i64 1, .int .i64 0, .int .i64 1, .int .i64 2, .int .i64 0, .int .i64 0, .int .i64 0, .int .i64 0, .int .i64 0, .int .i64 (-1), .int .i64 0, .int .i64 4611686018427387904, .int .i64 4611686018427387904, .int .i64 0, .int .i64 1, .int .i64 4611686018427387904] 31)) w24.heap.size [.int .i64 2, .int .i64 0, .int .i64 1, .int .i64 (-1), .int .i64 0, .int .i64 1, .int .i64 0, .int .i64 (-1), .int .i64 1, .int .i64 0, .int .i64 2, .int .i64 1, .int .i64 0, .int .i64 1, .int .i64 2, .int .i64 0, .int .i64 0, .int .i64 0, .int .i64 0, .int .i64 0, .int .i64 (-1), .int .i64 0, .int .i64 4611686018427387904, .int .i64 4611686018427387904, .int .i64 0, .int .i64 1, .int .i64 4611686018427387904] 31 := Blk.new _ _ _
  have hbN := hb24.alloc (hb24.size) (.cells #[.int .i64 2, .int .i64 0, .int .i64 1, .int .i64 (-1), .int .i64 0, .int .i64 1, .int .i64 0, .int .i64 (-1), .int .i64 1, .int .i64 0, .int .i64 2, .int .i64 1, .int .i64 0, .int .i64 1, .int .i64 2, .int .i64 0, .int .i64 0, .int .i64 0, .int .i64 0, .int .i64 0, .int .i64 (-1), .int .i64 0, .int .i64 4611686018427387904, .int .i64 4611686018427387904, .int .i64 0, .int .i64 1, .int .i64 4611686018427387904] 31)
  generalize w24.alloc (.cells #[.int .i64 2, .int .i64 0, .int .i64 1, .int .i64 (-1), .int .i64 0, .int .i64 1, .int .i64 0, .int .i64 (-1), .int .i64 1, .int .i64 0, .int .i64 2, .int .i64 1, .int .i64 0, .int .i64 1, .int .i64 2, .int .i64 0, .int .i64 0, .int .i64 0, .int .i64 0, .int .i64 0, .int .i64 (-1), .int .i64 0, .int .i64 4611686018427387904, .int .i64 4611686018427387904, .int .i64 0, .int .i64 1, .int .i64 4611686018427387904] 31) = w25 at *
  generalize w24.heap.size = N at *
  clear hb24
  go_wp2_with fail
  go_loopw [13] (fun s13 wr => ∃ i : Nat, i ≤ 9 ∧ s13 = .int .i64 i ∧ Below w25.heap.size w25 wr) (fun s13 _ => 9 - (intOf s13).toNat)
  case atStart => exact ⟨0, by omega, rfl, Below.refl _ _⟩
  case round =>
    obtain ⟨i, hi, rfl, hbr⟩ := hrel
    by_cases hlt : i < 9
    · obtain ⟨q, hq⟩ : ∃ q, badPcs[i]? = some q := ⟨_, List.getElem?_eq_getElem (show i < badPcs.length from hlt)⟩
      obtain ⟨x0, x1, x2⟩ := bad_cells i q hq
      obtain ⟨q1, q2, q3, q4⟩ := bad_take q (List.mem_of_getElem? hq)
      have HF := Lib.hid (show ∀ w', Below wr.heap.size wr w' → (w'.cell? ⟨N, i * 3, none⟩ = some (.int .i64 q.1) ∧ w'.cell? ⟨N, i * 3 + 1, none⟩ = some (.int .i64 q.2.1) ∧ w'.cell? ⟨N, i * 3 + 2, none⟩ = some (.int .i64 q.2.2)) from fun w' hb => ⟨by rw [((hN.on hbr).on hb).cell]; exact x0, by rw [((hN.on hbr).on hb).cell]; exact x1, by rw [((hN.on hbr).on hb).cell]; exact x2⟩)
      clear x0 x1 x2 hq
      obtain ⟨q, r, s⟩ := q
      simp only at HF q1 q2 q3 q4
      go_upto_region 18 with fail
      refine wp_region_float [1, 2, 3, 4] [0, 5, 6] [5, 6] (Below wr.heap.size wr) (by kernel_rfl) (by kernel_rfl) (by kernel_rfl) (by kernel_rfl) (fun c a d v w h => by cases d <;> exact h) (below_drew (Below.refl _ _)) ?_
      have hS : Below wr.heap.size wr { wr with drawn := wr.drawn + 1 } := below_drew (Below.refl _ _)
      generalize ({ wr with drawn := wr.drawn + 1 } : World) = wx at *
      simp only [pick, List.map_cons, List.map_nil, List.getD_cons_zero, List.getD_cons_succ]
      repeat (
        refine takes_val (v := ?_) ?_ (fun w' hS => ?_) ?_
        rotate_left
        · rfl
        · obtain ⟨k0, k1, k2⟩ := HF.out w' hS
          go_simp
          with_reducible rfl
        simp only [Act.put, List.setIfInBounds_toArray, List.set_cons_zero, List.set_cons_succ])
      refine takes_nil ?_
      refine seqW_step (by rfl) (fun K hK => ?_)
      go_simp
      refine (new_any 2 2 (by decide) (by decide) wx).mono ?_
      rintro e wy ⟨b5, g5, cap5, ms5, rfl, hs5, hb5, hge5⟩
      have hb6 := hS.on hb5
      refine hK.out _ _ (.inr hb6) ?_
      clear hK K
      have hf := take_any (Sp.new 2 2) (good_of (by decide)) (by decide) b5 g5 cap5 ms5 q r s q1 q2 q3 wy hs5
      unfold TakeEnds at hf
      rw [q4] at hf
      have HT := Lib.hid hf
      clear hf q4
      refine seqW_step (by rfl) (fun K hK => ?_)
      go_simp
      refine HT.out.mono ?_
      rintro e wz ⟨rfl, hs7, hm7⟩
      have hbz := Mod.fresh hb5 hm7 hge5
      have hb8 := hS.on hbz
      refine hK.out _ _ (.inl (by rfl)) ?_
      clear hK K
      refine seqW_step (by rfl) (fun K hK => ?_)
      go_simp
      refine hK.out _ _ (.inl (by rfl)) (seqW_nil ?_)
      clear hK K HF HT hs5 hs7 hm7
      have hbz2 := hbr.on hb8
      go_wp2_with fail
      go_roundw
      case rel => exact ⟨i + 1, by omega, by go_num, hbz2⟩
      case measure => simp [intOf]; omega
    · obtain rfl : i = 9 := by omega
      clear hlt hi
      have hall := hbN.on hbr
      go_wp2_with fail
      refine (alloc_none 1 true wr).mono ?_
      rintro e wa ⟨rfl, hba⟩
      go_upto_region 21 with fail
      have hbb := hba.on ((Below.refl wa.heap.size wa).alloc (Nat.le_refl _) (.cells #[.int .i64 0, .int .i64 0, .int .i64 0] 31))
      generalize wa.alloc (.cells #[.int .i64 0, .int .i64 0, .int .i64 0] 31) = wb at *
      go_wp2_with fail
      refine (victim_none wb).mono ?_
      rintro e wc ⟨rfl, hbc⟩
      have hbd := (hall.on hbb).on hbc
      clear hba hbb hbc hbr hall hbN
      have hsF := hs15.on hbd
      have hcpF := hcp15.on hbd
      have hCF := hC15.on hbd
      have hDF := hD15.on hbd
      have hEF := hE15.on hbd
      have hFF := hF15.on hbd
      have hwF := hw15.on hbd
      go_upto_region 22 with fail
      have HF := Lib.hid (show ∀ w', Below wc.heap.size wc w' → (w'.cell? ⟨C, 0, none⟩ = some (.int .i64 0) ∧ w'.cell? ⟨C, 1, none⟩ = some (.int .i64 0) ∧ w'.cell? ⟨C, 2, none⟩ = some (.int .i64 2) ∧ w'.cell? ⟨D, 0, none⟩ = some (.int .i64 0) ∧ w'.cell? ⟨D, 1, none⟩ = some (.int .i64 0) ∧ w'.cell? ⟨D, 2, none⟩ = some (.int .i64 2) ∧ w'.cell? ⟨E, 0, none⟩ = some (.int .i64 (-7)) ∧ w'.cell? ⟨E, 1, none⟩ = some (.int .i64 0) ∧ w'.cell? ⟨E, 2, none⟩ = some (.int .i64 0) ∧ w'.cell? ⟨F, 0, none⟩ = some (.int .i64 1) ∧ w'.cell? ⟨F, 1, none⟩ = some (.int .i64 0) ∧ w'.cell? ⟨F, 2, none⟩ = some (.int .i64 1)) from fun w' hb => ⟨by rw [(hCF.on hb).cell]; rfl, by rw [(hCF.on hb).cell]; rfl, by rw [(hCF.on hb).cell]; rfl, by rw [(hDF.on hb).cell]; rfl, by rw [(hDF.on hb).cell]; rfl, by rw [(hDF.on hb).cell]; rfl, by rw [(hEF.on hb).cell]; rfl, by rw [(hEF.on hb).cell]; rfl, by rw [(hEF.on hb).cell]; rfl, by rw [(hFF.on hb).cell]; rfl, by rw [(hFF.on hb).cell]; rfl, by rw [(hFF.on hb).cell]; rfl⟩)
      refine wp_region_settleF (Below wc.heap.size wc) (by kernel_rfl) (by kernel_rfl) (by kernel_rfl) (below_drew (Below.refl _ _)) ?_
      repeat (first
        | (refine settled_not ?_ ?_
           · rfl
           simp only [Act.put, List.setIfInBounds_toArray, List.set_cons_zero, List.set_cons_succ])
        | (refine settled_val (v := ?_) ?_ (fun w' hS => ?_) ?_
           rotate_left
           · rfl
           · obtain ⟨k0, k1, k2, k3, k4, k5, k6, k7, k8, k9, k10, k11⟩ := HF.out w' hS
             go_simp
             with_reducible rfl
           simp only [Act.put, List.setIfInBounds_toArray, List.set_cons_zero, List.set_cons_succ])
        | (refine settled_call (f := 10) (v := .bool true) ?_ (fun w' hS => ?_) (fun w' hS => ((works_any w').mono fun e w'' ⟨h1, h2⟩ => ⟨h1, hS.on h2⟩)) ?_
           · rfl
           · go_simp
           simp only [Act.put, List.setIfInBounds_toArray, List.set_cons_zero, List.set_cons_succ])
        | (refine settled_call (f := 26) (v := .agg #[.int .i64 0, .int .i64 0, .int .i64 2]) ?_ (fun w' hS => ?_) (fun w' hS => ((at_any 0 0 2 w').mono fun e w'' ⟨h1, h2⟩ => ⟨h1, hS.on h2⟩)) ?_
           · rfl
           · go_simp
           simp only [Act.put, List.setIfInBounds_toArray, List.set_cons_zero, List.set_cons_succ])
        | (refine settled_call (f := 26) (v := .agg #[.int .i64 (-7), .int .i64 0, .int .i64 0]) ?_ (fun w' hS => ?_) (fun w' hS => ((at_any (-7) 0 0 w').mono fun e w'' ⟨h1, h2⟩ => ⟨h1, hS.on h2⟩)) ?_
           · rfl
           · go_simp
           simp only [Act.put, List.setIfInBounds_toArray, List.set_cons_zero, List.set_cons_succ])
        | (refine settled_call (f := 26) (v := .agg #[.int .i64 1, .int .i64 0, .int .i64 1]) ?_ (fun w' hS => ?_) (fun w' hS => ((at_any 1 0 1 w').mono fun e w'' ⟨h1, h2⟩ => ⟨h1, hS.on h2⟩)) ?_
           · rfl
           · go_simp
           simp only [Act.put, List.setIfInBounds_toArray, List.set_cons_zero, List.set_cons_succ])
        | (refine settled_call (f := 26) (v := .agg #[.int .i64 0, .int .i64 0, .int .i64 1]) ?_ (fun w' hS => ?_) (fun w' hS => ((at_any 0 0 1 w').mono fun e w'' ⟨h1, h2⟩ => ⟨h1, hS.on h2⟩)) ?_
           · rfl
           · go_simp
           simp only [Act.put, List.setIfInBounds_toArray, List.set_cons_zero, List.set_cons_succ])
        | (refine settled_call (f := 21) (v := .int .i64 1) ?_ (fun w' hS => ?_) (fun w' hS => ((live_any (⟨2, 2, [⟨0, 0, 2⟩, ⟨1, 0, 1⟩], 1, 1, 3⟩ : Sp) b3 g3 cap3 ms3 1 w' (hcpF.on hS) (by decide)).mono fun e w'' ⟨h1, h2⟩ => ⟨by rw [h1, show (⟨2, 2, [⟨0, 0, 2⟩, ⟨1, 0, 1⟩], 1, 1, 3⟩ : Sp).liveOf 1 = 1 by kernel_rfl]; rfl, by rw [← h2]; exact hS⟩)) ?_
           · rfl
           · go_simp
           simp only [Act.put, List.setIfInBounds_toArray, List.set_cons_zero, List.set_cons_succ])
        | (refine settled_call (f := 21) (v := .int .i64 0) ?_ (fun w' hS => ?_) (fun w' hS => ((live_any (⟨2, 2, [⟨0, 0, 2⟩], 1, 1, 3⟩ : Sp) b g cap ms 1 w' (hsF.on hS) (by decide)).mono fun e w'' ⟨h1, h2⟩ => ⟨by rw [h1, show (⟨2, 2, [⟨0, 0, 2⟩], 1, 1, 3⟩ : Sp).liveOf 1 = 0 by kernel_rfl]; rfl, by rw [← h2]; exact hS⟩)) ?_
           · rfl
           · go_simp
           simp only [Act.put, List.setIfInBounds_toArray, List.set_cons_zero, List.set_cons_succ])
        | (refine settled_call (f := 21) (v := .int .i64 0) ?_ (fun w' hS => ?_) (fun w' hS => ((live_any (⟨2, 2, [⟨0, 0, 2⟩], 1, 1, 3⟩ : Sp) b g cap ms (-1) w' (hsF.on hS) (by decide)).mono fun e w'' ⟨h1, h2⟩ => ⟨by rw [h1, show (⟨2, 2, [⟨0, 0, 2⟩], 1, 1, 3⟩ : Sp).liveOf (-1) = 0 by kernel_rfl]; rfl, by rw [← h2]; exact hS⟩)) ?_
           · rfl
           · go_simp
           simp only [Act.put, List.setIfInBounds_toArray, List.set_cons_zero, List.set_cons_succ])
        | (refine settled_call (f := 21) (v := .int .i64 0) ?_ (fun w' hS => ?_) (fun w' hS => ((live_any (⟨2, 2, [⟨0, 0, 2⟩], 1, 1, 3⟩ : Sp) b g cap ms 99 w' (hsF.on hS) (by decide)).mono fun e w'' ⟨h1, h2⟩ => ⟨by rw [h1, show (⟨2, 2, [⟨0, 0, 2⟩], 1, 1, 3⟩ : Sp).liveOf 99 = 0 by kernel_rfl]; rfl, by rw [← h2]; exact hS⟩)) ?_
           · rfl
           · go_simp
           simp only [Act.put, List.setIfInBounds_toArray, List.set_cons_zero, List.set_cons_succ])
        | (refine settled_call (f := 21) (v := .int .i64 0) ?_ (fun w' hS => ?_) (fun w' hS => ((live_none 0 w').mono fun e w'' ⟨h1, h2⟩ => ⟨h1, by rw [← h2]; exact hS⟩)) ?_
           · rfl
           · go_simp
           simp only [Act.put, List.setIfInBounds_toArray, List.set_cons_zero, List.set_cons_succ])
        | (refine settled_call (f := 13) (v := .int .i64 1) ?_ (fun w' hS => ?_) (fun w' hS => ((take_none 0 0 1 w').mono fun e w'' ⟨h1, h2⟩ => ⟨h1, hS.on h2⟩)) ?_
           · rfl
           · go_simp
           simp only [Act.put, List.setIfInBounds_toArray, List.set_cons_zero, List.set_cons_succ])
        | (refine settled_call (f := 11) (v := .int .i64 1) ?_ (fun w' hS => ?_) (fun w' hS => ((free_none 0 0 1 w').mono fun e w'' ⟨h1, h2⟩ => ⟨h1, hS.on h2⟩)) ?_
           · rfl
           · go_simp
           simp only [Act.put, List.setIfInBounds_toArray, List.set_cons_zero, List.set_cons_succ])
        | (refine settled_call (f := 19) (v := .int .i64 0) ?_ (fun w' hS => ?_) (fun w' hS => ((empty_none w').mono fun e w'' ⟨h1, h2⟩ => ⟨h1, hS.on h2⟩)) ?_
           · rfl
           · go_simp
           simp only [Act.put, List.setIfInBounds_toArray, List.set_cons_zero, List.set_cons_succ])
        | (refine settled_call (f := 24) (v := .pointer none) ?_ (fun w' hS => ?_) (fun w' hS => ((copy_none w').mono fun e w'' ⟨h1, h2⟩ => ⟨h1, by rw [← h2]; exact hS⟩)) ?_
           · rfl
           · go_simp
           simp only [Act.put, List.setIfInBounds_toArray, List.set_cons_zero, List.set_cons_succ])
        | (refine settled_call (f := 8) (v := .pointer none) ?_ (fun w' hS => ?_) (fun w' hS => ((new_none 1 4 (by unfold noSize; omega) w').mono fun e w'' ⟨h1, h2⟩ => ⟨h1, by rw [← h2]; exact hS⟩)) ?_
           · rfl
           · go_simp
           simp only [Act.put, List.setIfInBounds_toArray, List.set_cons_zero, List.set_cons_succ])
        | (refine settled_call (f := 8) (v := .pointer none) ?_ (fun w' hS => ?_) (fun w' hS => ((new_none 65 4 (by unfold noSize; omega) w').mono fun e w'' ⟨h1, h2⟩ => ⟨h1, by rw [← h2]; exact hS⟩)) ?_
           · rfl
           · go_simp
           simp only [Act.put, List.setIfInBounds_toArray, List.set_cons_zero, List.set_cons_succ])
        | (refine settled_call (f := 8) (v := .pointer none) ?_ (fun w' hS => ?_) (fun w' hS => ((new_none 4 0 (by unfold noSize; omega) w').mono fun e w'' ⟨h1, h2⟩ => ⟨h1, by rw [← h2]; exact hS⟩)) ?_
           · rfl
           · go_simp
           simp only [Act.put, List.setIfInBounds_toArray, List.set_cons_zero, List.set_cons_succ])
        | (refine settled_call (f := 8) (v := .pointer none) ?_ (fun w' hS => ?_) (fun w' hS => ((new_none 4 65 (by unfold noSize; omega) w').mono fun e w'' ⟨h1, h2⟩ => ⟨h1, by rw [← h2]; exact hS⟩)) ?_
           · rfl
           · go_simp
           simp only [Act.put, List.setIfInBounds_toArray, List.set_cons_zero, List.set_cons_succ]))
      refine settled_nil (fun w' hS => ?_)
      have hfin := hwF.on hS
      go_wp2_with fail
      go_ret
      exact ⟨rfl, hfin⟩
end Go.Proofs.Ytmicpjdlldjapaa
