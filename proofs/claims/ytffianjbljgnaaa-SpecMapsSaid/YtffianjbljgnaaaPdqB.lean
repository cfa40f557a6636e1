/-
  Texts folded into one: PdqM, PdqB.
-/
import Derived.Test.YtffianjbljgnaaaPdqA
import Derived.Test.YtffianjbljgnaaaSettleF
import Derived.Test.YtffianjbljgnaaaLayP
import Derived.Sort.WalkA14
import Derived.Deep.DeepCutAuto
import Derived.Deep.CutBlock

/-! ### PdqM -/
namespace Go.Proofs.Ytffianjbljgnaaa
set_option linter.unusedVariables false
set_option linter.unusedSimpArgs false
open Go.RowKit
theorem len_any (n : Nat) (hn : n < 4611686018427387904) (w : World) : Calls Try.prog 71 #[.int .u64 (n : Nat)] w fun e w' => e = .returned (.int .i64 (Sort.bitsLen n : Nat)) ∧ w = w' := by
  have h := Any.bits_Len (SlLaysF0.n15.bits Try.blen) (n : Int) w (by omega) (by omega)
  rw [Int.toNat_natCast, Go.Proofs.bitLen_eq _ (by omega)] at h
  exact h.mono fun e w' ⟨h1, h2⟩ => ⟨h1, h2.symm⟩
theorem npow_any (n : Nat) (hn : n < 4611686018427387904) (w : World) : Calls Try.prog 101 #[.int .i64 (n : Nat)] w fun e w' => e = .returned (.int .u64 ((1 <<< Sort.bitsLen n : Nat) : Int)) ∧ w = w' :=
  (AnyF.nextPowerOfTwo Try.npow n hn w).mono fun e w' ⟨h1, h2⟩ => ⟨h1, h2.symm⟩
theorem next_any (rb X : Nat) (t : TypeId) (hX : X < 18446744073709551616) (w : World) (h : Blk w rb [.int .u64 (X : Nat)] t) :
    Calls Try.prog 102 #[.pointer (some ⟨rb, 0, none⟩)] w fun e w' => ∃ Y : Nat, Y < 18446744073709551616 ∧ e = .returned (.int .u64 (Y : Nat)) ∧ Blk w' rb [.int .u64 (Y : Nat)] t ∧ Mod [rb] w w' :=
  (AnyF.xorshift_Next Try.xnext rb 0 X hX w (by rw [h.cell]; rfl) (h.free 0)).mono fun e w' ⟨h1, h2⟩ => ⟨_, Sort.xorNextN_lt X hX, h1, by
    subst h2
    exact h.set 0 _, by
    subst h2
    have := ((Mod.refl [rb] w).setCell ⟨rb, 0, none⟩ (.int .u64 (Sort.xorNextN X : Nat)) (.inl (by simp)))
    exact ⟨this.os, this.tape, this.output, this.size, this.block⟩⟩
/-- What a look at places ends with: the count of swaps (block sb) goes up by at most k. -/
def CountAt (w : World) (sb s : Nat) : Prop := Blk w sb [.int .i64 (s : Nat)] 3
def O2End (a b sb s : Nat) (w : World) (e : Ending) (w' : World) : Prop := ∃ x y s' : Nat, e = .returned (.tuple #[.int .i64 (x : Nat), .int .i64 (y : Nat)]) ∧ ((x = a ∧ y = b) ∨ (x = b ∧ y = a)) ∧ s' ≤ s + 1 ∧ CountAt w' sb s' ∧ Mod [sb] w w'
set_option maxRecDepth 100000 in
set_option maxHeartbeats 4000000 in
theorem order2_any (g : Nat) (d : Array Nat) (rest : List Value) (cap a b sb s : Nat) (ha : a < d.size) (hb : b < d.size) (hcap : d.size ≤ cap) (hsz : d.size ≤ 1000000) (hs : s ≤ 1000) (hne : g ≠ sb) (w : World) (h : ArrAt w g d rest) (hc : CountAt w sb s) :
    Calls Try.prog 111 #[.slice (some ⟨g, 0, none⟩) d.size cap, .int .i64 a, .int .i64 b, .pointer (some ⟨sb, 0, none⟩)] w (O2End a b sb s w) := by
  obtain ⟨n, hn⟩ : ∃ n, d.size = n := ⟨_, rfl⟩
  rw [hn]
  have HA := Lib.hid h
  have HC := Lib.hid hc
  have hai : (a : Int) < (n : Int) := by omega
  have hbi : (b : Int) < (n : Int) := by omega
  clear h hc
  go_enter Try.func111, Try.ntmps111
  go_upto_region 1 with fail
  obtain ⟨v1, hv1⟩ : ∃ x, d[b]! = x := ⟨_, rfl⟩
  obtain ⟨v2, hv2⟩ : ∃ x, d[a]! = x := ⟨_, rfl⟩
  have HF := Lib.hid (show ∀ w', Below w.heap.size w w' → (w'.cell? ⟨g, b, none⟩ = some (.int .u64 (v1 : Nat)) ∧ w'.cell? ⟨g, a, none⟩ = some (.int .u64 (v2 : Nat))) from fun w' hb => ⟨by rw [← hv1]; exact (HA.out.on hb).get (by omega), by rw [← hv2]; exact (HA.out.on hb).get (by omega)⟩)
  cases hlss : below64 v1 v2 with
  | true =>
    have HL := Lib.hid hlss
    clear hlss hv1 hv2
    refine wp_region_settleF (Below w.heap.size w) (by kernel_rfl) (by kernel_rfl) (by kernel_rfl) (below_drew (Below.refl _ _)) ?_
    repeat (first
      | (refine settled_not ?_ ?_
         · rfl
         simp only [Act.put, List.setIfInBounds_toArray, List.set_cons_zero, List.set_cons_succ])
      | (refine settled_val (v := ?_) ?_ (fun w' hS => ?_) ?_
         rotate_left
         · rfl
         · obtain ⟨k0, k1⟩ := HF.out w' hS
           go_simp
           with_reducible rfl
         simp only [Act.put, List.setIfInBounds_toArray, List.set_cons_zero, List.set_cons_succ])
      | (refine settled_call (f := 84) (v := .bool true) ?_ (fun w' hS => ?_) (fun w' hS => ((less_any v1 v2 w').mono fun e w'' ⟨h1, h2⟩ => ⟨by rw [h1, HL.out], h2 ▸ hS⟩)) ?_
         · rfl
         · go_simp
         simp only [Act.put, List.setIfInBounds_toArray, List.set_cons_zero, List.set_cons_succ]))
    refine settled_nil (fun w2 hS => ?_)
    have hc2 := HC.out.on hS
    have c0 : w2.cell? ⟨sb, 0, none⟩ = some (.int .i64 (s : Nat)) := by rw [Blk.cell hc2]; rfl
    have f0 := Blk.free hc2 0
    have hc3 : CountAt (w2.setCell ⟨sb, 0, none⟩ (.int .i64 ((s + 1 : Nat) : Int))) sb (s + 1) := Blk.set hc2 0 (.int .i64 ((s + 1 : Nat) : Int))
    rw [show ((s + 1 : Nat) : Int) = (s : Int) + 1 by omega] at hc3
    have HE := Lib.hid (show O2End a b sb s w (.returned (.tuple #[.int .i64 (b : Nat), .int .i64 (a : Nat)])) (w2.setCell ⟨sb, 0, none⟩ (.int .i64 ((s : Int) + 1))) from
      ⟨b, a, s + 1, rfl, .inr ⟨rfl, rfl⟩, Nat.le_refl _, hc3, ((Mod.refl _ _).thenBelow hS).setCell _ _ (.inl (by simp))⟩)
    clear hS HF hc2 hc3
    go_wp2_with fail
    refine bodyPost_ret (results_tmp2 rfl _ _ _) rfl ?_
    exact HE.out
  | false =>
    have HL := Lib.hid hlss
    clear hlss hv1 hv2
    refine wp_region_settleF (Below w.heap.size w) (by kernel_rfl) (by kernel_rfl) (by kernel_rfl) (below_drew (Below.refl _ _)) ?_
    repeat (first
      | (refine settled_not ?_ ?_
         · rfl
         simp only [Act.put, List.setIfInBounds_toArray, List.set_cons_zero, List.set_cons_succ])
      | (refine settled_val (v := ?_) ?_ (fun w' hS => ?_) ?_
         rotate_left
         · rfl
         · obtain ⟨k0, k1⟩ := HF.out w' hS
           go_simp
           with_reducible rfl
         simp only [Act.put, List.setIfInBounds_toArray, List.set_cons_zero, List.set_cons_succ])
      | (refine settled_call (f := 84) (v := .bool false) ?_ (fun w' hS => ?_) (fun w' hS => ((less_any v1 v2 w').mono fun e w'' ⟨h1, h2⟩ => ⟨by rw [h1, HL.out], h2 ▸ hS⟩)) ?_
         · rfl
         · go_simp
         simp only [Act.put, List.setIfInBounds_toArray, List.set_cons_zero, List.set_cons_succ]))
    refine settled_nil (fun w2 hS => ?_)
    have HE := Lib.hid (show O2End a b sb s w (.returned (.tuple #[.int .i64 (a : Nat), .int .i64 (b : Nat)])) w2 from ⟨a, b, s, rfl, .inl ⟨rfl, rfl⟩, by omega, HC.out.on hS, (Mod.refl _ _).thenBelow hS⟩)
    clear hS HF
    go_wp2_with fail
    refine bodyPost_ret (results_tmp2 rfl _ _ _) rfl ?_
    exact HE.out
def MedEnd (p : Nat → Prop) (k sb s : Nat) (w : World) (e : Ending) (w' : World) : Prop := ∃ x s' : Nat, e = .returned (.int .i64 (x : Nat)) ∧ p x ∧ s' ≤ s + k ∧ CountAt w' sb s' ∧ Mod [sb] w w'
set_option maxRecDepth 100000 in
set_option maxHeartbeats 4000000 in
theorem median_any (g : Nat) (d : Array Nat) (rest : List Value) (cap a b c sb s : Nat) (ha : a < d.size) (hb : b < d.size) (hc : c < d.size) (hcap : d.size ≤ cap) (hsz : d.size ≤ 1000000) (hs : s ≤ 900) (hne : g ≠ sb) (w : World) (h : ArrAt w g d rest) (hC : CountAt w sb s) :
    Calls Try.prog 104 #[.slice (some ⟨g, 0, none⟩) d.size cap, .int .i64 a, .int .i64 b, .int .i64 c, .pointer (some ⟨sb, 0, none⟩)] w (MedEnd (fun x => x = a ∨ x = b ∨ x = c) 3 sb s w) := by
  have HA := Lib.hid h
  have HC1 := Lib.hid (order2_any g d rest cap a b sb s ha hb hcap hsz (by omega) hne w h hC)
  clear h hC
  go_enter Try.func104, Try.ntmps104
  go_wp2_with fail
  refine HC1.out.mono ?_
  rintro e w1 ⟨x1, y1, s1, rfl, h1, hs1, hc1, hm1⟩
  have hA1 := HA.out.mod hm1 (by simpa using hne)
  have hy1 : y1 < d.size := by omega
  have hx1 : x1 < d.size := by omega
  have HC2 := Lib.hid (order2_any g d rest cap y1 c sb s1 hy1 hc hcap hsz (by omega) hne w1 hA1 hc1)
  have HA1 := Lib.hid hA1
  have HM1 := Lib.hid hm1
  clear hA1 hm1 hc1 HC1 HA
  go_wp2_with fail
  refine HC2.out.mono ?_
  rintro e w2 ⟨x2, y2, s2, rfl, h2, hs2, hc2, hm2⟩
  have hA2 := HA1.out.mod hm2 (by simpa using hne)
  have hx2 : x2 < d.size := by omega
  have HC3 := Lib.hid (order2_any g d rest cap x1 x2 sb s2 hx1 hx2 hcap hsz (by omega) hne w2 hA2 hc2)
  have HM2 := Lib.hid (HM1.out.trans hm2)
  clear hA2 hm2 hc2 HC2 HM1 HA1
  go_wp2_with fail
  refine HC3.out.mono ?_
  rintro e w3 ⟨x3, y3, s3, rfl, h3, hs3, hc3, hm3⟩
  have HE := Lib.hid (show MedEnd (fun x => x = a ∨ x = b ∨ x = c) 3 sb s w (.returned (.int .i64 (y3 : Nat))) w3 from ⟨y3, s3, rfl, by simp only; omega, by omega, hc3, HM2.out.trans hm3⟩)
  clear hc3 hm3 HC3 HM2
  go_wp2_with fail
  go_ret
  exact HE.out
set_option maxRecDepth 100000 in
set_option maxHeartbeats 4000000 in
theorem medAdj_any (g : Nat) (d : Array Nat) (rest : List Value) (cap a sb s : Nat) (h0 : 0 < a) (ha : a + 1 < d.size) (hcap : d.size ≤ cap) (hsz : d.size ≤ 1000000) (hs : s ≤ 900) (hne : g ≠ sb) (w : World) (h : ArrAt w g d rest) (hC : CountAt w sb s) :
    Calls Try.prog 103 #[.slice (some ⟨g, 0, none⟩) d.size cap, .int .i64 a, .pointer (some ⟨sb, 0, none⟩)] w (MedEnd (fun x => a ≤ x + 1 ∧ x ≤ a + 1) 3 sb s w) := by
  have hm := median_any g d rest cap (a - 1) a (a + 1) sb s (by omega) (by omega) ha hcap hsz hs hne w h hC
  rw [show ((a - 1 : Nat) : Int) = (a : Int) - 1 by omega, show ((a + 1 : Nat) : Int) = (a : Int) + 1 by omega] at hm
  have HM := Lib.hid hm
  clear hm h hC
  go_enter Try.func103, Try.ntmps103
  go_wp2_with fail
  refine HM.out.mono ?_
  rintro e w1 ⟨x, s', rfl, hx, hs', hc', hm'⟩
  have HE := Lib.hid (show MedEnd (fun x => a ≤ x + 1 ∧ x ≤ a + 1) 3 sb s w (.returned (.int .i64 (x : Nat))) w1 from ⟨x, s', rfl, by simp only; omega, hs', hc', hm'⟩)
  clear hc' hm' HM
  go_wp2_with fail
  go_ret
  exact HE.out
def PivEnd (a b : Nat) (w : World) (e : Ending) (w' : World) : Prop := ∃ (p : Nat) (z : Int), e = .returned (.tuple #[.int .i64 (p : Nat), .int .i64 z]) ∧ a ≤ p ∧ p < b ∧ 0 ≤ z ∧ z ≤ 2 ∧ Below w.heap.size w w'
set_option maxRecDepth 100000 in
set_option maxHeartbeats 4000000 in
theorem pivot_any (g : Nat) (d : Array Nat) (rest : List Value) (cap a b : Nat) (hab : a + 13 ≤ b) (hb : b ≤ d.size) (hcap : d.size ≤ cap) (hsz : d.size ≤ 1000000) (w : World) (h : ArrAt w g d rest) :
    Calls Try.prog 81 #[.slice (some ⟨g, 0, none⟩) d.size cap, .int .i64 a, .int .i64 b] w (PivEnd a b w) := by
  have hbn := (Below.refl w.heap.size w).alloc (Nat.le_refl _) (.cells #[.int .i64 0] 3)
  have hCn : CountAt (w.alloc (.cells #[.int .i64 0] 3)) w.heap.size 0 := Blk.new w [.int .i64 0] 3
  have hAn := h.on hbn
  have hne : g ≠ w.heap.size := Nat.ne_of_lt h.lt
  obtain ⟨sb, hsb⟩ : ∃ x, w.heap.size = x := ⟨_, rfl⟩
  rw [hsb] at hCn hne
  obtain ⟨l, hl⟩ : ∃ l, b - a = l := ⟨_, rfl⟩
  have hli : (b : Int) - (a : Int) = (l : Int) := by omega
  obtain ⟨q, hq⟩ : ∃ q, l / 4 = q := ⟨_, rfl⟩
  have hqi : Int.tdiv (l : Int) 4 = (q : Int) := by rw [Int.tdiv_eq_ediv_of_nonneg (by omega)]; omega
  have hl8 : (8 : Int) ≤ (l : Int) := by omega
  obtain ⟨i, hi⟩ : ∃ x, a + q = x := ⟨_, rfl⟩
  obtain ⟨j, hj⟩ : ∃ x, a + q * 2 = x := ⟨_, rfl⟩
  obtain ⟨k, hk⟩ : ∃ x, a + q * 3 = x := ⟨_, rfl⟩
  have hii : (a : Int) + (q : Int) = (i : Int) := by omega
  have hji : (a : Int) + (q : Int) * 2 = (j : Int) := by omega
  have hki : (a : Int) + (q : Int) * 3 = (k : Int) := by omega
  have HA := Lib.hid hAn
  have HC := Lib.hid hCn
  have HB := Lib.hid hbn
  clear h hAn hCn hbn
  go_enter Try.func81, Try.ntmps81
  go_upto_region 3 with fail
  try rw [hsb]
  generalize w.alloc (.cells #[.int .i64 0] 3) = w0 at *
  go_upto_if 32 with fail
  go_cut [11] (fun s11 wx => ∃ p s : Nat, s11 = .int .i64 (p : Nat) ∧ a ≤ p ∧ p < b ∧ CountAt wx sb s ∧ s ≤ 12 ∧ Below w.heap.size w wx)
  case first =>
    go_upto_if 34 with fail
    go_cut [10, 11, 12] (fun s10 s11 s12 wx => ∃ i j k s : Nat, s10 = .int .i64 (i : Nat) ∧ s11 = .int .i64 (j : Nat) ∧ s12 = .int .i64 (k : Nat) ∧ (a ≤ i ∧ i < b) ∧ (a ≤ j ∧ j < b) ∧ (a ≤ k ∧ k < b) ∧ CountAt wx sb s ∧ s ≤ 9 ∧ ArrAt wx g d rest ∧ Below w.heap.size w wx)
    case first =>
      by_cases h50 : 50 ≤ l
      · have h50i : (50 : Int) ≤ (l : Int) := by omega
        have HC1 := Lib.hid (medAdj_any g d rest cap i sb 0 (by omega) (by omega) hcap hsz (by omega) hne w0 HA.out HC.out)
        go_wp2_with fail
        refine HC1.out.mono ?_
        rintro e w1 ⟨x1, s1, rfl, hx1, hs1, hc1, hm1⟩
        have hA1 := HA.out.mod hm1 (by simpa using hne)
        have HC2 := Lib.hid (medAdj_any g d rest cap j sb s1 (by omega) (by omega) hcap hsz (by omega) hne w1 hA1 hc1)
        have HA1 := Lib.hid hA1
        have HM1 := Lib.hid hm1
        clear hA1 hc1 hm1 HC1
        go_wp2_with fail
        refine HC2.out.mono ?_
        rintro e w2 ⟨x2, s2, rfl, hx2, hs2, hc2, hm2⟩
        have hA2 := HA1.out.mod hm2 (by simpa using hne)
        have HC3 := Lib.hid (medAdj_any g d rest cap k sb s2 (by omega) (by omega) hcap hsz (by omega) hne w2 hA2 hc2)
        have HA2 := Lib.hid hA2
        have HM2 := Lib.hid (HM1.out.trans hm2)
        clear hA2 hc2 hm2 HC2 HM1 HA1
        go_wp2_with fail
        refine HC3.out.mono ?_
        rintro e w3 ⟨x3, s3, rfl, hx3, hs3, hc3, hm3⟩
        have HR := Lib.hid (show ∃ i j k s : Nat, Value.int .i64 (x1 : Nat) = .int .i64 (i : Nat) ∧ Value.int .i64 (x2 : Nat) = .int .i64 (j : Nat) ∧ Value.int .i64 (x3 : Nat) = .int .i64 (k : Nat) ∧ (a ≤ i ∧ i < b) ∧ (a ≤ j ∧ j < b) ∧ (a ≤ k ∧ k < b) ∧ CountAt w3 sb s ∧ s ≤ 9 ∧ ArrAt w3 g d rest ∧ Below w.heap.size w w3 from
          ⟨x1, x2, x3, s3, rfl, rfl, rfl, by omega, by omega, by omega, hc3, by omega, HA2.out.mod hm3 (by simpa using hne), HB.out.trans ((HM2.out.trans hm3).below (fun x hx => by simp at hx; omega) HB.out.size)⟩)
        clear hc3 hm3 HC3 HM2 HA2
        go_wp2_with fail
        go_meet
        exact HR.out
      · have h50i : ¬ (50 : Int) ≤ (l : Int) := by omega
        have HR := Lib.hid (show ∃ i' j' k' s : Nat, Value.int .i64 (i : Nat) = .int .i64 (i' : Nat) ∧ Value.int .i64 (j : Nat) = .int .i64 (j' : Nat) ∧ Value.int .i64 (k : Nat) = .int .i64 (k' : Nat) ∧ (a ≤ i' ∧ i' < b) ∧ (a ≤ j' ∧ j' < b) ∧ (a ≤ k' ∧ k' < b) ∧ CountAt w0 sb s ∧ s ≤ 9 ∧ ArrAt w0 g d rest ∧ Below w.heap.size w w0 from
          ⟨i, j, k, 0, rfl, rfl, rfl, by omega, by omega, by omega, HC.out, by omega, HA.out, HB.out⟩)
        go_wp2_with fail
        go_meet
        exact HR.out
    rename World => w1
    obtain ⟨i1, j1, k1, s1, rfl, rfl, rfl, hi1, hj1, hk1, hc1, hs1, hA1, hb1⟩ := hcut
    have HC1 := Lib.hid (median_any g d rest cap i1 j1 k1 sb s1 (by omega) (by omega) (by omega) hcap hsz (by omega) hne w1 hA1 hc1)
    have HB1 := Lib.hid hb1
    clear hc1 hA1 hb1
    go_wp2_with fail
    refine HC1.out.mono ?_
    rintro e w2 ⟨x, s2, rfl, hx, hs2, hc2, hm2⟩
    have HR := Lib.hid (show ∃ p s : Nat, Value.int .i64 (x : Nat) = .int .i64 (p : Nat) ∧ a ≤ p ∧ p < b ∧ CountAt w2 sb s ∧ s ≤ 12 ∧ Below w.heap.size w w2 from
      ⟨x, s2, rfl, by omega, by omega, hc2, by omega, HB1.out.trans (hm2.below (fun x hx => by simp at hx; omega) HB1.out.size)⟩)
    clear hc2 hm2 HC1
    go_wp2_with fail
    go_meet
    exact HR.out
  rename World => w3
  obtain ⟨p, s, rfl, hp1, hp2, hc3, hs3, hb3⟩ := hcut
  have c0 : w3.cell? ⟨sb, 0, none⟩ = some (.int .i64 (s : Nat)) := by rw [Blk.cell hc3]; rfl
  have HB3 := Lib.hid hb3
  have HE := Lib.hid (show ∀ z : Int, 0 ≤ z → z ≤ 2 → PivEnd a b w (.returned (.tuple #[.int .i64 (p : Nat), .int .i64 z])) w3 from fun z h0 h2 => ⟨p, z, rfl, hp1, hp2, h0, h2, hb3⟩)
  clear hc3 hb3 HA HC HB
  by_cases h0 : s = 0
  · subst h0
    go_wp2_with fail
    refine bodyPost_ret (results_tmp2 rfl _ _ _) rfl ?_
    exact HE.out 1 (by omega) (by omega)
  · by_cases h12 : s = 12
    · subst h12
      go_wp2_with fail
      refine bodyPost_ret (results_tmp2 rfl _ _ _) rfl ?_
      exact HE.out 2 (by omega) (by omega)
    · have h0i : ¬ (s : Int) = 0 := by omega
      have h12i : ¬ (s : Int) = 12 := by omega
      go_wp2_with fail
      refine bodyPost_ret (results_tmp2 rfl _ _ _) rfl ?_
      exact HE.out 0 (by omega) (by omega)
end Go.Proofs.Ytffianjbljgnaaa

/-! ### PdqB -/
namespace Go.Proofs.Ytffianjbljgnaaa
set_option linter.unusedVariables false
set_option linter.unusedSimpArgs false
open Go.RowKit
/-- What ends with a row whose places a to b are permuted. -/
def PermEnd (g a b : Nat) (d : Array Nat) (rest : List Value) (w : World) (e : Ending) (w' : World) : Prop := ∃ d' : Array Nat, e = .returned (.tuple #[]) ∧ Sort.PermIn a b d d' ∧ ArrAt w' g d' rest ∧ Mod [g] w w'
theorem and_u64 (X m : Nat) (hX : X < 18446744073709551616) (hm : m < 18446744073709551616) : bits .and .u64 (X : Int) (m : Int) = ((X &&& m : Nat) : Int) := bits_and_u64_nat X m hX hm
set_option maxRecDepth 100000 in
set_option maxHeartbeats 4000000 in
theorem break_any (g : Nat) (d : Array Nat) (rest : List Value) (cap a b : Nat) (hab : a + 13 ≤ b) (hb : b ≤ d.size) (hcap : d.size ≤ cap) (hsz : d.size ≤ 1000000) (w : World) (h : ArrAt w g d rest) :
    Calls Try.prog 80 #[.slice (some ⟨g, 0, none⟩) d.size cap, .int .i64 a, .int .i64 b] w (PermEnd g a b d rest w) := by
  obtain ⟨n, hn⟩ : ∃ n, d.size = n := ⟨_, rfl⟩
  rw [hn]
  obtain ⟨l, hl⟩ : ∃ l, b - a = l := ⟨_, rfl⟩
  have hli : (b : Int) - (a : Int) = (l : Int) := by omega
  have hl8 : (8 : Int) ≤ (l : Int) := by omega
  obtain ⟨q, hq⟩ : ∃ q, l / 4 = q := ⟨_, rfl⟩
  have hqi : Int.tdiv (l : Int) 4 = (q : Int) := by rw [Int.tdiv_eq_ediv_of_nonneg (by omega)]; omega
  obtain ⟨i0, hi0⟩ : ∃ x, a + q * 2 - 1 = x := ⟨_, rfl⟩
  have hi0i : (a : Int) + (q : Int) * 2 = (i0 : Int) + 1 := by omega
  have hwl : IntKind.u64.wrap (l : Int) = (l : Int) := by rw [IntKind.wrap_u64]; omega
  have hbn := (Below.refl w.heap.size w).alloc (Nat.le_refl _) (.cells #[.int .u64 (l : Nat)] 147)
  have hXn : Blk (w.alloc (.cells #[.int .u64 (l : Nat)] 147)) w.heap.size [.int .u64 (l : Nat)] 147 := Blk.new w [.int .u64 (l : Nat)] 147
  have hAn := h.on hbn
  have hne : g ≠ w.heap.size := Nat.ne_of_lt h.lt
  obtain ⟨rb, hrb⟩ : ∃ x, w.heap.size = x := ⟨_, rfl⟩
  rw [hrb] at hXn hne
  obtain ⟨m, hm⟩ : ∃ m, 1 <<< Sort.bitsLen l = m := ⟨_, rfl⟩
  have hm1 : 1 ≤ m ∧ m ≤ 2 * l := by
    rw [← hm, Nat.shiftLeft_eq, Nat.one_mul]
    exact ⟨Nat.one_le_two_pow, Sort.two_pow_bitsLen_le (by omega)⟩
  have HN := Lib.hid (fun w' => npow_any l (by omega) w')
  rw [hm] at HN
  have HA := Lib.hid hAn
  have HX := Lib.hid hXn
  have HB := Lib.hid hbn
  clear h hAn hXn hbn
  go_enter Try.func80, Try.ntmps80
  go_upto_region 3 with fail
  try rw [hrb]
  generalize w.alloc (.cells #[.int .u64 (l : Nat)] 147) = w0 at *
  go_wp2_with fail
  refine (HN.out w0).mono ?_
  rintro e w1 ⟨rfl, rfl⟩
  clear HN
  go_wp2_with fail
  go_loopw [9, 10] (fun s9 _ wr => ∃ (t X : Nat) (dd : Array Nat), t ≤ 3 ∧ s9 = .int .i64 ((i0 : Int) + (t : Int)) ∧ X < 18446744073709551616 ∧ Blk wr rb [.int .u64 (X : Nat)] 147 ∧ Sort.PermIn a b d dd ∧ ArrAt wr g dd rest ∧ Mod [g, rb] w0 wr) (fun s9 _ _ => (((i0 : Int) + 3) - intOf s9).toNat)
  case atStart => exact ⟨0, l, d, by omega, by simp, by omega, HX.out, Sort.permIn_refl _ _ _, HA.out, Mod.refl _ _⟩
  case round =>
    obtain ⟨t, X, dd, ht, rfl, hXl, hX, hp, hA, hmo⟩ := hrel
    have HXr := Lib.hid hX
    have HAr := Lib.hid hA
    have HMr := Lib.hid hmo
    have HP := Lib.hid hp
    have hz : dd.size = n := by rw [hp.1, hn]
    clear hX hA hmo hp
    obtain ⟨ix, hix⟩ : ∃ x, i0 + t = x := ⟨_, rfl⟩
    have hixi : (i0 : Int) + (t : Int) = (ix : Int) := by omega
    rw [hixi]
    by_cases hlt : t < 3
    · have hle : (ix : Int) ≤ (i0 : Int) + 1 + 1 := by omega
      have HNx := Lib.hid (next_any rb X 147 hXl wr HXr.out)
      go_wp2_with fail
      refine HNx.out.mono ?_
      rintro e w2 ⟨Y, hYl, rfl, hY, hm2⟩
      obtain ⟨o, ho⟩ : ∃ o, Y &&& (m - 1) = o := ⟨_, rfl⟩
      have hol : o ≤ m - 1 := by rw [← ho]; exact Nat.and_le_right
      have hand : bits .and .u64 (Y : Int) ((m : Int) - 1) = (o : Int) := by rw [show (m : Int) - 1 = ((m - 1 : Nat) : Int) by omega, and_u64 Y (m - 1) hYl (by omega), ho]
      have HY := Lib.hid hY
      have HA2 := Lib.hid (HAr.out.mod hm2 (by simpa using hne))
      have HM2 := Lib.hid (HMr.out.trans (hm2.mono (fun x hx => .inl (by simp at hx; simp [hx]))))
      clear hY hm2 HNx HXr HAr HMr
      obtain ⟨p, hp⟩ : ∃ p, (if o ≥ l then o - l else o) = p := ⟨_, rfl⟩
      have hpl : p < l := by rw [← hp]; split <;> omega
      go_upto_region 8 with fail
      clear hand
      go_upto_if 43 with fail
      go_cut [10] (fun s10 wx => s10 = .int .i64 (p : Nat) ∧ w2 = wx)
      case first =>
        by_cases hge : o ≥ l
        · have hgei : (l : Int) ≤ (o : Int) := by omega
          have hpi : (o : Int) - (l : Int) = (p : Int) := by rw [← hp, if_pos hge]; omega
          go_wp2_with fail
          go_meet
          exact ⟨rfl, rfl⟩
        · have hgei : ¬ (l : Int) ≤ (o : Int) := by omega
          have hpo : o = p := by rw [← hp, if_neg hge]
          subst hpo
          go_wp2_with fail
          go_meet
          exact ⟨rfl, rfl⟩
      obtain ⟨rfl, rfl⟩ := hcut
      obtain ⟨ap, hap⟩ : ∃ x, a + p = x := ⟨_, rfl⟩
      have hapi : IntKind.i64.wrap ((a : Int) + (p : Int)) = (ap : Int) := by rw [show (a : Int) + (p : Int) = (ap : Int) by omega]; exact IntWalk.i64_in _ (by omega)
      have hapn : (ap : Int) < (n : Int) := by omega
      have hixn : (ix : Int) < (n : Int) := by omega
      go_upto_region 10 with fail
      have HG := Lib.hid (show ∀ w', Below w2.heap.size w2 w' → (w'.cell? ⟨g, ix, none⟩ = some (.int .u64 (dd[ix]! : Nat)) ∧ w'.cell? ⟨g, ap, none⟩ = some (.int .u64 (dd[ap]! : Nat))) from
        fun w' hb => ⟨(HA2.out.on hb).get (by omega), (HA2.out.on hb).get (by omega)⟩)
      obtain ⟨vI, hvI⟩ : ∃ x, dd[ix]! = x := ⟨_, rfl⟩
      obtain ⟨vJ, hvJ⟩ : ∃ x, dd[ap]! = x := ⟨_, rfl⟩
      rw [hvI, hvJ] at HG
      refine wp_region_float2 [2, 3, 4, 5] [0, 1, 6, 7, 8, 9, 10, 11, 12, 13, 14, 15] [16, 17, 18, 19] [16, 17, 18, 19] (Below w2.heap.size w2) (by kernel_rfl) (by kernel_rfl) (by kernel_rfl) (by kernel_rfl) (fun c a d v w h => by cases d <;> exact h) (below_drew (Below.refl _ _)) ?_
      have hS : Below w2.heap.size w2 { w2 with drawn := w2.drawn + 1 } := below_drew (Below.refl _ _)
      generalize ({ w2 with drawn := w2.drawn + 1 } : World) = w3 at *
      simp only [pick, List.map_cons, List.map_nil, List.getD_cons_zero, List.getD_cons_succ]
      repeat (
        refine takes_val (v := ?_) ?_ (fun w' hS => ?_) ?_
        rotate_left
        · rfl
        · go_simp
          with_reducible rfl
        simp only [Act.put, List.setIfInBounds_toArray, List.set_cons_zero, List.set_cons_succ])
      refine takes_nil ?_
      repeat (
        refine takes_val (v := ?_) ?_ (fun w' hS => ?_) ?_
        rotate_left
        · rfl
        · obtain ⟨k0, k1⟩ := HG.out w' hS
          go_simp
          with_reducible rfl
        simp only [Act.put, List.setIfInBounds_toArray, List.set_cons_zero, List.set_cons_succ])
      refine takes_nil ?_
      obtain ⟨k0, k1⟩ := HG.out w3 hS
      have hA3 := HA2.out.on hS
      have hM3 := HM2.out.thenBelow hS
      have z0 := Blk.free hA3 ix
      have hAx := hA3.set (i := ix) (by omega) vJ
      have z2 := Blk.free hAx ap
      have z3 := hAx.get (i := ap) (by simp; omega)
      have hA4 : ArrAt ((w3.setCell ⟨g, ix, none⟩ (.int .u64 (vJ : Nat))).setCell ⟨g, ap, none⟩ (.int .u64 (vI : Nat))) g (Sort.swp dd ix ap) rest := by
        have := hA3.swap (i := ix) (j := ap) (by omega) (by omega)
        rw [hvI, hvJ] at this
        exact this
      have hM4 : Mod [g, rb] w0 ((w3.setCell ⟨g, ix, none⟩ (.int .u64 (vJ : Nat))).setCell ⟨g, ap, none⟩ (.int .u64 (vI : Nat))) := (hM3.setCell _ _ (.inl (by simp))).setCell _ _ (.inl (by simp))
      have hMs : Mod [g] w2 ((w3.setCell ⟨g, ix, none⟩ (.int .u64 (vJ : Nat))).setCell ⟨g, ap, none⟩ (.int .u64 (vI : Nat))) := ((Mod.of_below hS).setCell _ _ (.inl (by simp))).setCell _ _ (.inl (by simp))
      clear hAx hA3 hM3
      generalize hz3 : ((dd.setIfInBounds ix vJ)[ap]! : Nat) = x3 at z3
      clear hz3 hvI hvJ
      refine seqW_step (by rfl) (fun K hK => ?_)
      go_simp
      refine hK.out _ _ (.inl (by rfl)) ?_
      clear hK K
      refine seqW_step (by rfl) (fun K hK => ?_)
      go_simp
      refine hK.out _ _ (.inl (by rfl)) ?_
      clear hK K
      refine seqW_step (by rfl) (fun K hK => ?_)
      go_simp
      refine hK.out _ _ (.inl (by rfl)) ?_
      clear hK K
      refine seqW_step (by rfl) (fun K hK => ?_)
      go_simp
      refine hK.out _ _ (.inl (by rfl)) (seqW_nil ?_)
      clear hK K HG hS k0 k1 z0 z2 z3
      generalize (w3.setCell ⟨g, ix, none⟩ (.int .u64 (vJ : Nat))).setCell ⟨g, ap, none⟩ (.int .u64 (vI : Nat)) = w4 at *
      have HP2 := Lib.hid (Sort.permIn_trans _ _ _ _ _ HP.out (Sort.swp_permIn dd a b ix ap (by omega) (by omega) (by omega) (by omega) (by omega)))
      have HY4 := Lib.hid (show Blk w4 rb [.int .u64 (Y : Nat)] 147 from HY.out.mod hMs (by simp; omega))
      go_wp2_with fail
      go_roundw
      case rel => exact ⟨t + 1, Y, Sort.swp dd ix ap, by omega, by rw [← hixi]; go_num, hYl, HY4.out, HP2.out, hA4, hM4⟩
      case measure => simp [intOf]; omega
    · have hle : ¬ (ix : Int) ≤ (i0 : Int) + 1 + 1 := by omega
      have HE := Lib.hid (show PermEnd g a b d rest w (.returned (.tuple #[])) wr from ⟨dd, rfl, HP.out, HAr.out, (Mod.of_below (S := [g]) HB.out).on HMr.out (fun x hx => by
        simp at hx
        rcases hx with rfl | rfl
        · left; simp
        · right; omega)⟩)
      go_wp2_with fail
      go_end0
      exact HE.out
end Go.Proofs.Ytffianjbljgnaaa
