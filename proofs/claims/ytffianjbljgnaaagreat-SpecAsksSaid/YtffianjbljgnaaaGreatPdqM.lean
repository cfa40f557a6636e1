/-
  The pivot's choice at numbers without a sign: one of the row's places. Condition: the row's length is one that a machine has. (Printed by gen_pdqm.py.)
-/
import Derived.Test.YtffianjbljgnaaaGreatPdqA
import Derived.Test.YtffianjbljgnaaaGreatSettleF
import Derived.Test.YtffianjbljgnaaaGreatLayP
import Derived.Sort.WalkA14
import Derived.Deep.DeepCutAuto
import Derived.Deep.CutBlock
namespace Go.Proofs.YtffianjbljgnaaaGreat
set_option linter.unusedVariables false
set_option linter.unusedSimpArgs false
open Go.RowKit
theorem len_any (n : Nat) (hn : n < 4611686018427387904) (w : World) : Calls Tryz.prog 53 #[.int .u64 (n : Nat)] w fun e w' => e = .returned (.int .i64 (Sort.bitsLen n : Nat)) ∧ w = w' := by
  have h := Any.bits_Len (SlLaysF0.n15.bits Tryz.blen) (n : Int) w (by omega) (by omega)
  rw [Int.toNat_natCast, Go.Proofs.bitLen_eq _ (by omega)] at h
  exact h.mono fun e w' ⟨h1, h2⟩ => ⟨h1, h2.symm⟩
theorem npow_any (n : Nat) (hn : n < 4611686018427387904) (w : World) : Calls Tryz.prog 81 #[.int .i64 (n : Nat)] w fun e w' => e = .returned (.int .u64 ((1 <<< Sort.bitsLen n : Nat) : Int)) ∧ w = w' :=
  (AnyF.nextPowerOfTwo Tryz.npow n hn w).mono fun e w' ⟨h1, h2⟩ => ⟨h1, h2.symm⟩
theorem next_any (rb X : Nat) (t : TypeId) (hX : X < 18446744073709551616) (w : World) (h : Blk w rb [.int .u64 (X : Nat)] t) :
    Calls Tryz.prog 82 #[.pointer (some ⟨rb, 0, none⟩)] w fun e w' => ∃ Y : Nat, Y < 18446744073709551616 ∧ e = .returned (.int .u64 (Y : Nat)) ∧ Blk w' rb [.int .u64 (Y : Nat)] t ∧ Mod [rb] w w' :=
  (AnyF.xorshift_Next Tryz.xnext rb 0 X hX w (by rw [h.cell]; rfl) (h.free 0)).mono fun e w' ⟨h1, h2⟩ => ⟨_, Sort.xorNextN_lt X hX, h1, by
    subst h2
    exact h.set 0 _, by
    subst h2
    have := ((Mod.refl [rb] w).setCell ⟨rb, 0, none⟩ (.int .u64 (Sort.xorNextN X : Nat)) (.inl (by simp)))
    exact ⟨this.os, this.tape, this.output, this.size, this.block⟩⟩
/-- What a look at places ends with: the count of swaps (block sb) goes up by at most k. -/
def CountAt (w : World) (sb s : Nat) : Prop := Blk w sb [.int .i64 (s : Nat)] 3
def O2End (a b sb s : Nat) (w : World) (e : Ending) (w' : World) : Prop := ∃ x y s' : Nat, e = .returned (.tuple #[.int .i64 (x : Nat), .int .i64 (y : Nat)]) ∧ ((x = a ∧ y = b) ∨ (x = b ∧ y = a)) ∧ s' ≤ s + 1 ∧ CountAt w' sb s' ∧ Mod [sb] w w'
set_option maxRecDepth 100000 in
set_option maxHeartbeats 4000000 in
theorem order2_any (g : Nat) (d : Array Nat) (rest : List Value) (cap a b sb s : Nat) (ha : a < d.size) (hb : b < d.size) (hcap : d.size ≤ cap) (hsz : d.size ≤ 1000000) (hs : s ≤ 1000) (hne : g ≠ sb) (w : World) (h : ArrAt w g d rest) (hc : CountAt w sb s) :
    Calls Tryz.prog 90 #[.slice (some ⟨g, 0, none⟩) d.size cap, .int .i64 a, .int .i64 b, .pointer (some ⟨sb, 0, none⟩)] w (O2End a b sb s w) := by
  obtain ⟨n, hn⟩ : ∃ n, d.size = n := ⟨_, rfl⟩
  rw [hn]
  have HA := Lib.hid h
  have HC := Lib.hid hc
  have hai : (a : Int) < (n : Int) := by omega
  have hbi : (b : Int) < (n : Int) := by omega
  clear h hc
  go_enter Tryz.func90, Tryz.ntmps90
  go_upto_region 1 with fail
  obtain ⟨v1, hv1⟩ : ∃ x, d[b]! = x := ⟨_, rfl⟩
  obtain ⟨v2, hv2⟩ : ∃ x, d[a]! = x := ⟨_, rfl⟩
  have HF := Lib.hid (show ∀ w', Below w.heap.size w w' → (w'.cell? ⟨g, b, none⟩ = some (.int .u64 (v1 : Nat)) ∧ w'.cell? ⟨g, a, none⟩ = some (.int .u64 (v2 : Nat))) from fun w' hb => ⟨by rw [← hv1]; exact (HA.out.on hb).get (by omega), by rw [← hv2]; exact (HA.out.on hb).get (by omega)⟩)
  cases hlss : below64 v1 v2 with
  | true =>
    have HL := Lib.hid hlss
    clear hlss hv1 hv2
    refine wp_region_settleF (Below w.heap.size w) (by kernel_rfl) (by kernel_rfl) (by kernel_rfl) (below_drew (Below.refl _ _)) ?_
    repeat (first
      | (refine settled_not ?_ ?_
         · rfl
         simp only [Act.put, List.setIfInBounds_toArray, List.set_cons_zero, List.set_cons_succ])
      | (refine settled_val (v := ?_) ?_ (fun w' hS => ?_) ?_
         rotate_left
         · rfl
         · obtain ⟨k0, k1⟩ := HF.out w' hS
           go_simp
           with_reducible rfl
         simp only [Act.put, List.setIfInBounds_toArray, List.set_cons_zero, List.set_cons_succ])
      | (refine settled_call (f := 68) (v := .bool true) ?_ (fun w' hS => ?_) (fun w' hS => ((less_any v1 v2 w').mono fun e w'' ⟨h1, h2⟩ => ⟨by rw [h1, HL.out], h2 ▸ hS⟩)) ?_
         · rfl
         · go_simp
         simp only [Act.put, List.setIfInBounds_toArray, List.set_cons_zero, List.set_cons_succ]))
    refine settled_nil (fun w2 hS => ?_)
    have hc2 := HC.out.on hS
    have c0 : w2.cell? ⟨sb, 0, none⟩ = some (.int .i64 (s : Nat)) := by rw [Blk.cell hc2]; rfl
    have f0 := Blk.free hc2 0
    have hc3 : CountAt (w2.setCell ⟨sb, 0, none⟩ (.int .i64 ((s + 1 : Nat) : Int))) sb (s + 1) := Blk.set hc2 0 (.int .i64 ((s + 1 : Nat) : Int))
    rw [show ((s + 1 : Nat) : Int) = (s : Int) + 1 by omega] at hc3
    have HE := Lib.hid (show O2End a b sb s w (.returned (.tuple #[.int .i64 (b : Nat), .int .i64 (a : Nat)])) (w2.setCell ⟨sb, 0, none⟩ (.int .i64 ((s : Int) + 1))) from
      ⟨b, a, s + 1, rfl, .inr ⟨rfl, rfl⟩, Nat.le_refl _, hc3, ((Mod.refl _ _).thenBelow hS).setCell _ _ (.inl (by simp))⟩)
    clear hS HF hc2 hc3
    go_wp2_with fail
    refine bodyPost_ret (results_tmp2 rfl _ _ _) rfl ?_
    exact HE.out
  | false =>
    have HL := Lib.hid hlss
    clear hlss hv1 hv2
    refine wp_region_settleF (Below w.heap.size w) (by kernel_rfl) (by kernel_rfl) (by kernel_rfl) (below_drew (Below.refl _ _)) ?_
    repeat (first
      | (refine settled_not ?_ ?_
         · rfl
         simp only [Act.put, List.setIfInBounds_toArray, List.set_cons_zero, List.set_cons_succ])
      | (refine settled_val (v := ?_) ?_ (fun w' hS => ?_) ?_
         rotate_left
         · rfl
         · obtain ⟨k0, k1⟩ := HF.out w' hS
           go_simp
           with_reducible rfl
         simp only [Act.put, List.setIfInBounds_toArray, List.set_cons_zero, List.set_cons_succ])
      | (refine settled_call (f := 68) (v := .bool false) ?_ (fun w' hS => ?_) (fun w' hS => ((less_any v1 v2 w').mono fun e w'' ⟨h1, h2⟩ => ⟨by rw [h1, HL.out], h2 ▸ hS⟩)) ?_
         · rfl
         · go_simp
         simp only [Act.put, List.setIfInBounds_toArray, List.set_cons_zero, List.set_cons_succ]))
    refine settled_nil (fun w2 hS => ?_)
    have HE := Lib.hid (show O2End a b sb s w (.returned (.tuple #[.int .i64 (a : Nat), .int .i64 (b : Nat)])) w2 from ⟨a, b, s, rfl, .inl ⟨rfl, rfl⟩, by omega, HC.out.on hS, (Mod.refl _ _).thenBelow hS⟩)
    clear hS HF
    go_wp2_with fail
    refine bodyPost_ret (results_tmp2 rfl _ _ _) rfl ?_
    exact HE.out
def MedEnd (p : Nat → Prop) (k sb s : Nat) (w : World) (e : Ending) (w' : World) : Prop := ∃ x s' : Nat, e = .returned (.int .i64 (x : Nat)) ∧ p x ∧ s' ≤ s + k ∧ CountAt w' sb s' ∧ Mod [sb] w w'
set_option maxRecDepth 100000 in
set_option maxHeartbeats 4000000 in
theorem median_any (g : Nat) (d : Array Nat) (rest : List Value) (cap a b c sb s : Nat) (ha : a < d.size) (hb : b < d.size) (hc : c < d.size) (hcap : d.size ≤ cap) (hsz : d.size ≤ 1000000) (hs : s ≤ 900) (hne : g ≠ sb) (w : World) (h : ArrAt w g d rest) (hC : CountAt w sb s) :
    Calls Tryz.prog 84 #[.slice (some ⟨g, 0, none⟩) d.size cap, .int .i64 a, .int .i64 b, .int .i64 c, .pointer (some ⟨sb, 0, none⟩)] w (MedEnd (fun x => x = a ∨ x = b ∨ x = c) 3 sb s w) := by
  have HA := Lib.hid h
  have HC1 := Lib.hid (order2_any g d rest cap a b sb s ha hb hcap hsz (by omega) hne w h hC)
  clear h hC
  go_enter Tryz.func84, Tryz.ntmps84
  go_wp2_with fail
  refine HC1.out.mono ?_
  rintro e w1 ⟨x1, y1, s1, rfl, h1, hs1, hc1, hm1⟩
  have hA1 := HA.out.mod hm1 (by simpa using hne)
  have hy1 : y1 < d.size := by omega
  have hx1 : x1 < d.size := by omega
  have HC2 := Lib.hid (order2_any g d rest cap y1 c sb s1 hy1 hc hcap hsz (by omega) hne w1 hA1 hc1)
  have HA1 := Lib.hid hA1
  have HM1 := Lib.hid hm1
  clear hA1 hm1 hc1 HC1 HA
  go_wp2_with fail
  refine HC2.out.mono ?_
  rintro e w2 ⟨x2, y2, s2, rfl, h2, hs2, hc2, hm2⟩
  have hA2 := HA1.out.mod hm2 (by simpa using hne)
  have hx2 : x2 < d.size := by omega
  have HC3 := Lib.hid (order2_any g d rest cap x1 x2 sb s2 hx1 hx2 hcap hsz (by omega) hne w2 hA2 hc2)
  have HM2 := Lib.hid (HM1.out.trans hm2)
  clear hA2 hm2 hc2 HC2 HM1 HA1
  go_wp2_with fail
  refine HC3.out.mono ?_
  rintro e w3 ⟨x3, y3, s3, rfl, h3, hs3, hc3, hm3⟩
  have HE := Lib.hid (show MedEnd (fun x => x = a ∨ x = b ∨ x = c) 3 sb s w (.returned (.int .i64 (y3 : Nat))) w3 from ⟨y3, s3, rfl, by simp only; omega, by omega, hc3, HM2.out.trans hm3⟩)
  clear hc3 hm3 HC3 HM2
  go_wp2_with fail
  go_ret
  exact HE.out
set_option maxRecDepth 100000 in
set_option maxHeartbeats 4000000 in
theorem medAdj_any (g : Nat) (d : Array Nat) (rest : List Value) (cap a sb s : Nat) (h0 : 0 < a) (ha : a + 1 < d.size) (hcap : d.size ≤ cap) (hsz : d.size ≤ 1000000) (hs : s ≤ 900) (hne : g ≠ sb) (w : World) (h : ArrAt w g d rest) (hC : CountAt w sb s) :
    Calls Tryz.prog 83 #[.slice (some ⟨g, 0, none⟩) d.size cap, .int .i64 a, .pointer (some ⟨sb, 0, none⟩)] w (MedEnd (fun x => a ≤ x + 1 ∧ x ≤ a + 1) 3 sb s w) := by
  have hm := median_any g d rest cap (a - 1) a (a + 1) sb s (by omega) (by omega) ha hcap hsz hs hne w h hC
  rw [show ((a - 1 : Nat) : Int) = (a : Int) - 1 by omega, show ((a + 1 : Nat) : Int) = (a : Int) + 1 by omega] at hm
  have HM := Lib.hid hm
  clear hm h hC
  go_enter Tryz.func83, Tryz.ntmps83
  go_wp2_with fail
  refine HM.out.mono ?_
  rintro e w1 ⟨x, s', rfl, hx, hs', hc', hm'⟩
  have HE := Lib.hid (show MedEnd (fun x => a ≤ x + 1 ∧ x ≤ a + 1) 3 sb s w (.returned (.int .i64 (x : Nat))) w1 from ⟨x, s', rfl, by simp only; omega, hs', hc', hm'⟩)
  clear hc' hm' HM
  go_wp2_with fail
  go_ret
  exact HE.out
def PivEnd (a b : Nat) (w : World) (e : Ending) (w' : World) : Prop := ∃ (p : Nat) (z : Int), e = .returned (.tuple #[.int .i64 (p : Nat), .int .i64 z]) ∧ a ≤ p ∧ p < b ∧ 0 ≤ z ∧ z ≤ 2 ∧ Below w.heap.size w w'
set_option maxRecDepth 100000 in
set_option maxHeartbeats 4000000 in
theorem pivot_any (g : Nat) (d : Array Nat) (rest : List Value) (cap a b : Nat) (hab : a + 13 ≤ b) (hb : b ≤ d.size) (hcap : d.size ≤ cap) (hsz : d.size ≤ 1000000) (w : World) (h : ArrAt w g d rest) :
    Calls Tryz.prog 65 #[.slice (some ⟨g, 0, none⟩) d.size cap, .int .i64 a, .int .i64 b] w (PivEnd a b w) := by
  have hbn := (Below.refl w.heap.size w).alloc (Nat.le_refl _) (.cells #[.int .i64 0] 3)
  have hCn : CountAt (w.alloc (.cells #[.int .i64 0] 3)) w.heap.size 0 := Blk.new w [.int .i64 0] 3
  have hAn := h.on hbn
  have hne : g ≠ w.heap.size := Nat.ne_of_lt h.lt
  obtain ⟨sb, hsb⟩ : ∃ x, w.heap.size = x := ⟨_, rfl⟩
  rw [hsb] at hCn hne
  obtain ⟨l, hl⟩ : ∃ l, b - a = l := ⟨_, rfl⟩
  have hli : (b : Int) - (a : Int) = (l : Int) := by omega
  obtain ⟨q, hq⟩ : ∃ q, l / 4 = q := ⟨_, rfl⟩
  have hqi : Int.tdiv (l : Int) 4 = (q : Int) := by rw [Int.tdiv_eq_ediv_of_nonneg (by omega)]; omega
  have hl8 : (8 : Int) ≤ (l : Int) := by omega
  obtain ⟨i, hi⟩ : ∃ x, a + q = x := ⟨_, rfl⟩
  obtain ⟨j, hj⟩ : ∃ x, a + q * 2 = x := ⟨_, rfl⟩
  obtain ⟨k, hk⟩ : ∃ x, a + q * 3 = x := ⟨_, rfl⟩
  have hii : (a : Int) + (q : Int) = (i : Int) := by omega
  have hji : (a : Int) + (q : Int) * 2 = (j : Int) := by omega
  have hki : (a : Int) + (q : Int) * 3 = (k : Int) := by omega
  have HA := Lib.hid hAn
  have HC := Lib.hid hCn
  have HB := Lib.hid hbn
  clear h hAn hCn hbn
  go_enter Tryz.func65, Tryz.ntmps65
  go_upto_region 3 with fail
  try rw [hsb]
  generalize w.alloc (.cells #[.int .i64 0] 3) = w0 at *
  go_upto_if 32 with fail
  go_cut [11] (fun s11 wx => ∃ p s : Nat, s11 = .int .i64 (p : Nat) ∧ a ≤ p ∧ p < b ∧ CountAt wx sb s ∧ s ≤ 12 ∧ Below w.heap.size w wx)
  case first =>
    go_upto_if 34 with fail
    go_cut [10, 11, 12] (fun s10 s11 s12 wx => ∃ i j k s : Nat, s10 = .int .i64 (i : Nat) ∧ s11 = .int .i64 (j : Nat) ∧ s12 = .int .i64 (k : Nat) ∧ (a ≤ i ∧ i < b) ∧ (a ≤ j ∧ j < b) ∧ (a ≤ k ∧ k < b) ∧ CountAt wx sb s ∧ s ≤ 9 ∧ ArrAt wx g d rest ∧ Below w.heap.size w wx)
    case first =>
      by_cases h50 : 50 ≤ l
      · have h50i : (50 : Int) ≤ (l : Int) := by omega
        have HC1 := Lib.hid (medAdj_any g d rest cap i sb 0 (by omega) (by omega) hcap hsz (by omega) hne w0 HA.out HC.out)
        go_wp2_with fail
        refine HC1.out.mono ?_
        rintro e w1 ⟨x1, s1, rfl, hx1, hs1, hc1, hm1⟩
        have hA1 := HA.out.mod hm1 (by simpa using hne)
        have HC2 := Lib.hid (medAdj_any g d rest cap j sb s1 (by omega) (by omega) hcap hsz (by omega) hne w1 hA1 hc1)
        have HA1 := Lib.hid hA1
        have HM1 := Lib.hid hm1
        clear hA1 hc1 hm1 HC1
        go_wp2_with fail
        refine HC2.out.mono ?_
        rintro e w2 ⟨x2, s2, rfl, hx2, hs2, hc2, hm2⟩
        have hA2 := HA1.out.mod hm2 (by simpa using hne)
        have HC3 := Lib.hid (medAdj_any g d rest cap k sb s2 (by omega) (by omega) hcap hsz (by omega) hne w2 hA2 hc2)
        have HA2 := Lib.hid hA2
        have HM2 := Lib.hid (HM1.out.trans hm2)
        clear hA2 hc2 hm2 HC2 HM1 HA1
        go_wp2_with fail
        refine HC3.out.mono ?_
        rintro e w3 ⟨x3, s3, rfl, hx3, hs3, hc3, hm3⟩
        have HR := Lib.hid (show ∃ i j k s : Nat, Value.int .i64 (x1 : Nat) = .int .i64 (i : Nat) ∧ Value.int .i64 (x2 : Nat) = .int .i64 (j : Nat) ∧ Value.int .i64 (x3 : Nat) = .int .i64 (k : Nat) ∧ (a ≤ i ∧ i < b) ∧ (a ≤ j ∧ j < b) ∧ (a ≤ k ∧ k < b) ∧ CountAt w3 sb s ∧ s ≤ 9 ∧ ArrAt w3 g d rest ∧ Below w.heap.size w w3 from
          ⟨x1, x2, x3, s3, rfl, rfl, rfl, by omega, by omega, by omega, hc3, by omega, HA2.out.mod hm3 (by simpa using hne), HB.out.trans ((HM2.out.trans hm3).below (fun x hx => by simp at hx; omega) HB.out.size)⟩)
        clear hc3 hm3 HC3 HM2 HA2
        go_wp2_with fail
        go_meet
        exact HR.out
      · have h50i : ¬ (50 : Int) ≤ (l : Int) := by omega
        have HR := Lib.hid (show ∃ i' j' k' s : Nat, Value.int .i64 (i : Nat) = .int .i64 (i' : Nat) ∧ Value.int .i64 (j : Nat) = .int .i64 (j' : Nat) ∧ Value.int .i64 (k : Nat) = .int .i64 (k' : Nat) ∧ (a ≤ i' ∧ i' < b) ∧ (a ≤ j' ∧ j' < b) ∧ (a ≤ k' ∧ k' < b) ∧ CountAt w0 sb s ∧ s ≤ 9 ∧ ArrAt w0 g d rest ∧ Below w.heap.size w w0 from
          ⟨i, j, k, 0, rfl, rfl, rfl, by omega, by omega, by omega, HC.out, by omega, HA.out, HB.out⟩)
        go_wp2_with fail
        go_meet
        exact HR.out
    rename World => w1
    obtain ⟨i1, j1, k1, s1, rfl, rfl, rfl, hi1, hj1, hk1, hc1, hs1, hA1, hb1⟩ := hcut
    have HC1 := Lib.hid (median_any g d rest cap i1 j1 k1 sb s1 (by omega) (by omega) (by omega) hcap hsz (by omega) hne w1 hA1 hc1)
    have HB1 := Lib.hid hb1
    clear hc1 hA1 hb1
    go_wp2_with fail
    refine HC1.out.mono ?_
    rintro e w2 ⟨x, s2, rfl, hx, hs2, hc2, hm2⟩
    have HR := Lib.hid (show ∃ p s : Nat, Value.int .i64 (x : Nat) = .int .i64 (p : Nat) ∧ a ≤ p ∧ p < b ∧ CountAt w2 sb s ∧ s ≤ 12 ∧ Below w.heap.size w w2 from
      ⟨x, s2, rfl, by omega, by omega, hc2, by omega, HB1.out.trans (hm2.below (fun x hx => by simp at hx; omega) HB1.out.size)⟩)
    clear hc2 hm2 HC1
    go_wp2_with fail
    go_meet
    exact HR.out
  rename World => w3
  obtain ⟨p, s, rfl, hp1, hp2, hc3, hs3, hb3⟩ := hcut
  have c0 : w3.cell? ⟨sb, 0, none⟩ = some (.int .i64 (s : Nat)) := by rw [Blk.cell hc3]; rfl
  have HB3 := Lib.hid hb3
  have HE := Lib.hid (show ∀ z : Int, 0 ≤ z → z ≤ 2 → PivEnd a b w (.returned (.tuple #[.int .i64 (p : Nat), .int .i64 z])) w3 from fun z h0 h2 => ⟨p, z, rfl, hp1, hp2, h0, h2, hb3⟩)
  clear hc3 hb3 HA HC HB
  by_cases h0 : s = 0
  · subst h0
    go_wp2_with fail
    refine bodyPost_ret (results_tmp2 rfl _ _ _) rfl ?_
    exact HE.out 1 (by omega) (by omega)
  · by_cases h12 : s = 12
    · subst h12
      go_wp2_with fail
      refine bodyPost_ret (results_tmp2 rfl _ _ _) rfl ?_
      exact HE.out 2 (by omega) (by omega)
    · have h0i : ¬ (s : Int) = 0 := by omega
      have h12i : ¬ (s : Int) = 12 := by omega
      go_wp2_with fail
      refine bodyPost_ret (results_tmp2 rfl _ _ _) rfl ?_
      exact HE.out 0 (by omega) (by omega)
end Go.Proofs.YtffianjbljgnaaaGreat
