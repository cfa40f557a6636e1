/-
  breakPatternsOrdered at numbers without a sign: a permutation; insertionSortOrdered over an array. Condition: the row's length is one that a machine has. (Printed by gen_pdqb.py.)
-/
import Derived.Test.YtffianjbljgnaaaGreatPdqM
namespace Go.Proofs.YtffianjbljgnaaaGreat
set_option linter.unusedVariables false
set_option linter.unusedSimpArgs false
open Go.RowKit
/-- What ends with a row whose places a to b are permuted. -/
def PermEnd (g a b : Nat) (d : Array Nat) (rest : List Value) (w : World) (e : Ending) (w' : World) : Prop := ∃ d' : Array Nat, e = .returned (.tuple #[]) ∧ Sort.PermIn a b d d' ∧ ArrAt w' g d' rest ∧ Mod [g] w w'
theorem and_u64 (X m : Nat) (hX : X < 18446744073709551616) (hm : m < 18446744073709551616) : bits .and .u64 (X : Int) (m : Int) = ((X &&& m : Nat) : Int) := bits_and_u64_nat X m hX hm
set_option maxRecDepth 100000 in
set_option maxHeartbeats 4000000 in
theorem break_any (g : Nat) (d : Array Nat) (rest : List Value) (cap a b : Nat) (hab : a + 13 ≤ b) (hb : b ≤ d.size) (hcap : d.size ≤ cap) (hsz : d.size ≤ 1000000) (w : World) (h : ArrAt w g d rest) :
    Calls Tryz.prog 64 #[.slice (some ⟨g, 0, none⟩) d.size cap, .int .i64 a, .int .i64 b] w (PermEnd g a b d rest w) := by
  obtain ⟨n, hn⟩ : ∃ n, d.size = n := ⟨_, rfl⟩
  rw [hn]
  obtain ⟨l, hl⟩ : ∃ l, b - a = l := ⟨_, rfl⟩
  have hli : (b : Int) - (a : Int) = (l : Int) := by omega
  have hl8 : (8 : Int) ≤ (l : Int) := by omega
  obtain ⟨q, hq⟩ : ∃ q, l / 4 = q := ⟨_, rfl⟩
  have hqi : Int.tdiv (l : Int) 4 = (q : Int) := by rw [Int.tdiv_eq_ediv_of_nonneg (by omega)]; omega
  obtain ⟨i0, hi0⟩ : ∃ x, a + q * 2 - 1 = x := ⟨_, rfl⟩
  have hi0i : (a : Int) + (q : Int) * 2 = (i0 : Int) + 1 := by omega
  have hwl : IntKind.u64.wrap (l : Int) = (l : Int) := by rw [IntKind.wrap_u64]; omega
  have hbn := (Below.refl w.heap.size w).alloc (Nat.le_refl _) (.cells #[.int .u64 (l : Nat)] 121)
  have hXn : Blk (w.alloc (.cells #[.int .u64 (l : Nat)] 121)) w.heap.size [.int .u64 (l : Nat)] 121 := Blk.new w [.int .u64 (l : Nat)] 121
  have hAn := h.on hbn
  have hne : g ≠ w.heap.size := Nat.ne_of_lt h.lt
  obtain ⟨rb, hrb⟩ : ∃ x, w.heap.size = x := ⟨_, rfl⟩
  rw [hrb] at hXn hne
  obtain ⟨m, hm⟩ : ∃ m, 1 <<< Sort.bitsLen l = m := ⟨_, rfl⟩
  have hm1 : 1 ≤ m ∧ m ≤ 2 * l := by
    rw [← hm, Nat.shiftLeft_eq, Nat.one_mul]
    exact ⟨Nat.one_le_two_pow, Sort.two_pow_bitsLen_le (by omega)⟩
  have HN := Lib.hid (fun w' => npow_any l (by omega) w')
  rw [hm] at HN
  have HA := Lib.hid hAn
  have HX := Lib.hid hXn
  have HB := Lib.hid hbn
  clear h hAn hXn hbn
  go_enter Tryz.func64, Tryz.ntmps64
  go_upto_region 3 with fail
  try rw [hrb]
  generalize w.alloc (.cells #[.int .u64 (l : Nat)] 121) = w0 at *
  go_wp2_with fail
  refine (HN.out w0).mono ?_
  rintro e w1 ⟨rfl, rfl⟩
  clear HN
  go_wp2_with fail
  go_loopw [9, 10] (fun s9 _ wr => ∃ (t X : Nat) (dd : Array Nat), t ≤ 3 ∧ s9 = .int .i64 ((i0 : Int) + (t : Int)) ∧ X < 18446744073709551616 ∧ Blk wr rb [.int .u64 (X : Nat)] 121 ∧ Sort.PermIn a b d dd ∧ ArrAt wr g dd rest ∧ Mod [g, rb] w0 wr) (fun s9 _ _ => (((i0 : Int) + 3) - intOf s9).toNat)
  case atStart => exact ⟨0, l, d, by omega, by simp, by omega, HX.out, Sort.permIn_refl _ _ _, HA.out, Mod.refl _ _⟩
  case round =>
    obtain ⟨t, X, dd, ht, rfl, hXl, hX, hp, hA, hmo⟩ := hrel
    have HXr := Lib.hid hX
    have HAr := Lib.hid hA
    have HMr := Lib.hid hmo
    have HP := Lib.hid hp
    have hz : dd.size = n := by rw [hp.1, hn]
    clear hX hA hmo hp
    obtain ⟨ix, hix⟩ : ∃ x, i0 + t = x := ⟨_, rfl⟩
    have hixi : (i0 : Int) + (t : Int) = (ix : Int) := by omega
    rw [hixi]
    by_cases hlt : t < 3
    · have hle : (ix : Int) ≤ (i0 : Int) + 1 + 1 := by omega
      have HNx := Lib.hid (next_any rb X 121 hXl wr HXr.out)
      go_wp2_with fail
      refine HNx.out.mono ?_
      rintro e w2 ⟨Y, hYl, rfl, hY, hm2⟩
      obtain ⟨o, ho⟩ : ∃ o, Y &&& (m - 1) = o := ⟨_, rfl⟩
      have hol : o ≤ m - 1 := by rw [← ho]; exact Nat.and_le_right
      have hand : bits .and .u64 (Y : Int) ((m : Int) - 1) = (o : Int) := by rw [show (m : Int) - 1 = ((m - 1 : Nat) : Int) by omega, and_u64 Y (m - 1) hYl (by omega), ho]
      have HY := Lib.hid hY
      have HA2 := Lib.hid (HAr.out.mod hm2 (by simpa using hne))
      have HM2 := Lib.hid (HMr.out.trans (hm2.mono (fun x hx => .inl (by simp at hx; simp [hx]))))
      clear hY hm2 HNx HXr HAr HMr
      obtain ⟨p, hp⟩ : ∃ p, (if o ≥ l then o - l else o) = p := ⟨_, rfl⟩
      have hpl : p < l := by rw [← hp]; split <;> omega
      go_upto_region 8 with fail
      clear hand
      go_upto_if 43 with fail
      go_cut [10] (fun s10 wx => s10 = .int .i64 (p : Nat) ∧ w2 = wx)
      case first =>
        by_cases hge : o ≥ l
        · have hgei : (l : Int) ≤ (o : Int) := by omega
          have hpi : (o : Int) - (l : Int) = (p : Int) := by rw [← hp, if_pos hge]; omega
          go_wp2_with fail
          go_meet
          exact ⟨rfl, rfl⟩
        · have hgei : ¬ (l : Int) ≤ (o : Int) := by omega
          have hpo : o = p := by rw [← hp, if_neg hge]
          subst hpo
          go_wp2_with fail
          go_meet
          exact ⟨rfl, rfl⟩
      obtain ⟨rfl, rfl⟩ := hcut
      obtain ⟨ap, hap⟩ : ∃ x, a + p = x := ⟨_, rfl⟩
      have hapi : IntKind.i64.wrap ((a : Int) + (p : Int)) = (ap : Int) := by rw [show (a : Int) + (p : Int) = (ap : Int) by omega]; exact IntWalk.i64_in _ (by omega)
      have hapn : (ap : Int) < (n : Int) := by omega
      have hixn : (ix : Int) < (n : Int) := by omega
      go_upto_region 10 with fail
      have HG := Lib.hid (show ∀ w', Below w2.heap.size w2 w' → (w'.cell? ⟨g, ix, none⟩ = some (.int .u64 (dd[ix]! : Nat)) ∧ w'.cell? ⟨g, ap, none⟩ = some (.int .u64 (dd[ap]! : Nat))) from
        fun w' hb => ⟨(HA2.out.on hb).get (by omega), (HA2.out.on hb).get (by omega)⟩)
      obtain ⟨vI, hvI⟩ : ∃ x, dd[ix]! = x := ⟨_, rfl⟩
      obtain ⟨vJ, hvJ⟩ : ∃ x, dd[ap]! = x := ⟨_, rfl⟩
      rw [hvI, hvJ] at HG
      refine wp_region_float2 [2, 3, 4, 5] [0, 1, 6, 7, 8, 9, 10, 11, 12, 13, 14, 15] [16, 17, 18, 19] [16, 17, 18, 19] (Below w2.heap.size w2) (by kernel_rfl) (by kernel_rfl) (by kernel_rfl) (by kernel_rfl) (fun c a d v w h => by cases d <;> exact h) (below_drew (Below.refl _ _)) ?_
      have hS : Below w2.heap.size w2 { w2 with drawn := w2.drawn + 1 } := below_drew (Below.refl _ _)
      generalize ({ w2 with drawn := w2.drawn + 1 } : World) = w3 at *
      simp only [pick, List.map_cons, List.map_nil, List.getD_cons_zero, List.getD_cons_succ]
      repeat (
        refine takes_val (v := ?_) ?_ (fun w' hS => ?_) ?_
        rotate_left
        · rfl
        · go_simp
          with_reducible rfl
        simp only [Act.put, List.setIfInBounds_toArray, List.set_cons_zero, List.set_cons_succ])
      refine takes_nil ?_
      repeat (
        refine takes_val (v := ?_) ?_ (fun w' hS => ?_) ?_
        rotate_left
        · rfl
        · obtain ⟨k0, k1⟩ := HG.out w' hS
          go_simp
          with_reducible rfl
        simp only [Act.put, List.setIfInBounds_toArray, List.set_cons_zero, List.set_cons_succ])
      refine takes_nil ?_
      obtain ⟨k0, k1⟩ := HG.out w3 hS
      have hA3 := HA2.out.on hS
      have hM3 := HM2.out.thenBelow hS
      have z0 := Blk.free hA3 ix
      have hAx := hA3.set (i := ix) (by omega) vJ
      have z2 := Blk.free hAx ap
      have z3 := hAx.get (i := ap) (by simp; omega)
      have hA4 : ArrAt ((w3.setCell ⟨g, ix, none⟩ (.int .u64 (vJ : Nat))).setCell ⟨g, ap, none⟩ (.int .u64 (vI : Nat))) g (Sort.swp dd ix ap) rest := by
        have := hA3.swap (i := ix) (j := ap) (by omega) (by omega)
        rw [hvI, hvJ] at this
        exact this
      have hM4 : Mod [g, rb] w0 ((w3.setCell ⟨g, ix, none⟩ (.int .u64 (vJ : Nat))).setCell ⟨g, ap, none⟩ (.int .u64 (vI : Nat))) := (hM3.setCell _ _ (.inl (by simp))).setCell _ _ (.inl (by simp))
      have hMs : Mod [g] w2 ((w3.setCell ⟨g, ix, none⟩ (.int .u64 (vJ : Nat))).setCell ⟨g, ap, none⟩ (.int .u64 (vI : Nat))) := ((Mod.of_below hS).setCell _ _ (.inl (by simp))).setCell _ _ (.inl (by simp))
      clear hAx hA3 hM3
      generalize hz3 : ((dd.setIfInBounds ix vJ)[ap]! : Nat) = x3 at z3
      clear hz3 hvI hvJ
      refine seqW_step (by rfl) (fun K hK => ?_)
      go_simp
      refine hK.out _ _ (.inl (by rfl)) ?_
      clear hK K
      refine seqW_step (by rfl) (fun K hK => ?_)
      go_simp
      refine hK.out _ _ (.inl (by rfl)) ?_
      clear hK K
      refine seqW_step (by rfl) (fun K hK => ?_)
      go_simp
      refine hK.out _ _ (.inl (by rfl)) ?_
      clear hK K
      refine seqW_step (by rfl) (fun K hK => ?_)
      go_simp
      refine hK.out _ _ (.inl (by rfl)) (seqW_nil ?_)
      clear hK K HG hS k0 k1 z0 z2 z3
      generalize (w3.setCell ⟨g, ix, none⟩ (.int .u64 (vJ : Nat))).setCell ⟨g, ap, none⟩ (.int .u64 (vI : Nat)) = w4 at *
      have HP2 := Lib.hid (Sort.permIn_trans _ _ _ _ _ HP.out (Sort.swp_permIn dd a b ix ap (by omega) (by omega) (by omega) (by omega) (by omega)))
      have HY4 := Lib.hid (show Blk w4 rb [.int .u64 (Y : Nat)] 121 from HY.out.mod hMs (by simp; omega))
      go_wp2_with fail
      go_roundw
      case rel => exact ⟨t + 1, Y, Sort.swp dd ix ap, by omega, by rw [← hixi]; go_num, hYl, HY4.out, HP2.out, hA4, hM4⟩
      case measure => simp [intOf]; omega
    · have hle : ¬ (ix : Int) ≤ (i0 : Int) + 1 + 1 := by omega
      have HE := Lib.hid (show PermEnd g a b d rest w (.returned (.tuple #[])) wr from ⟨dd, rfl, HP.out, HAr.out, (Mod.of_below (S := [g]) HB.out).on HMr.out (fun x hx => by
        simp at hx
        rcases hx with rfl | rfl
        · left; simp
        · right; omega)⟩)
      go_wp2_with fail
      go_end0
      exact HE.out
end Go.Proofs.YtffianjbljgnaaaGreat
