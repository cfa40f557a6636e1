/-
  reverseRangeOrdered at numbers without a sign: as the plain one. Condition: the row's length is one that a machine has. (Printed by gen_pdqr.py.)
-/
import Derived.Test.YtffianjbljgnaaaPdqA
import Derived.Test.YtffianjbljgnaaaSettleF
namespace Go.Proofs.Ytffianjbljgnaaa
set_option linter.unusedVariables false
set_option linter.unusedSimpArgs false
open Go.RowKit
set_option maxRecDepth 100000 in
set_option maxHeartbeats 4000000 in
theorem reverse_any (g : Nat) (d : Array Nat) (rest : List Value) (cap a b : Nat) (hab : a ≤ b) (hb : b ≤ d.size) (hcap : d.size ≤ cap) (hsz : d.size ≤ 1000000) (w : World) (h : ArrAt w g d rest) :
    Calls Try.prog 82 #[.slice (some ⟨g, 0, none⟩) d.size cap, .int .i64 a, .int .i64 b] w (ArrEnd g (Sort.reverseRange d a b) rest w) := by
  obtain ⟨n, hn⟩ : ∃ n, d.size = n := ⟨_, rfl⟩
  rw [hn]
  have HD := Lib.hid h
  clear h
  go_enter Try.func82, Try.ntmps82
  go_wp2_with fail
  go_loopw [6, 7] (fun s6 s7 wr => ∃ (i : Nat) (j : Int) (d' : Array Nat), s6 = .int .i64 i ∧ s7 = .int .i64 j ∧ -1 ≤ j ∧ j < n ∧ i ≤ n ∧ d'.size = n ∧ (0 ≤ j → Sort.reverseLoop i j.toNat d' = Sort.reverseRange d a b) ∧ (j < 0 → d' = Sort.reverseRange d a b) ∧ ArrAt wr g d' rest ∧ Mod [g] w wr) (fun s6 s7 _ => (intOf s7 + 1 - intOf s6).toNat)
  case atStart =>
    refine ⟨a, (b : Int) - 1, d, rfl, rfl, by omega, by omega, by omega, hn, fun hj => ?_, fun hj => ?_, HD.out, Mod.refl _ _⟩
    · unfold Sort.reverseRange
      congr 1
      omega
    · have hb0 : b = 0 := by omega
      subst hb0
      have ha0 : a = 0 := by omega
      subst ha0
      unfold Sort.reverseRange Sort.reverseLoop
      simp
  case round =>
    obtain ⟨i, j, d', rfl, rfl, hj1, hjn, hin, hsz', hrev, hrev0, hA, hm⟩ := hrel
    have HA := Lib.hid hA
    have HM := Lib.hid hm
    have HR := Lib.hid hrev
    have HR0 := Lib.hid hrev0
    clear hA hm hrev hrev0
    by_cases hlt : (i : Int) < j
    · obtain ⟨J, rfl⟩ := Int.eq_ofNat_of_zero_le (show 0 ≤ j by omega)
      have hij : i < J := by omega
      have hi2 : i < d'.size := by omega
      have hj2 : J < d'.size := by omega
      have hil : (i : Int) < (n : Int) := by omega
      have HSt := Lib.hid (show Sort.reverseLoop (i + 1) (J - 1) (Sort.swp d' i J) = Sort.reverseRange d a b by
        rw [← HR.out (by omega)]
        conv => rhs; unfold Sort.reverseLoop
        rw [if_pos (by simpa using hij)]
        rfl)
      go_upto_region 3 with fail
      have HG := Lib.hid (show ∀ w', Below wr.heap.size wr w' → (w'.cell? ⟨g, i, none⟩ = some (.int .u64 (d'[i]! : Nat)) ∧ w'.cell? ⟨g, J, none⟩ = some (.int .u64 (d'[J]! : Nat))) from
        fun w' hb => ⟨(HA.out.on hb).get (by omega), (HA.out.on hb).get (by omega)⟩)
      obtain ⟨vI, hvI⟩ : ∃ x, d'[i]! = x := ⟨_, rfl⟩
      obtain ⟨vJ, hvJ⟩ : ∃ x, d'[J]! = x := ⟨_, rfl⟩
      rw [hvI, hvJ] at HG
      refine wp_region_float2 [2, 3] [0, 1, 4, 5, 6, 7, 8, 9, 10, 11] [12, 13, 14, 15] [12, 13, 14, 15] (Below wr.heap.size wr) (by kernel_rfl) (by kernel_rfl) (by kernel_rfl) (by kernel_rfl) (fun c a d v w h => by cases d <;> exact h) (below_drew (Below.refl _ _)) ?_
      have hS : Below wr.heap.size wr { wr with drawn := wr.drawn + 1 } := below_drew (Below.refl _ _)
      generalize ({ wr with drawn := wr.drawn + 1 } : World) = w3 at *
      simp only [pick, List.map_cons, List.map_nil, List.getD_cons_zero, List.getD_cons_succ]
      repeat (
        refine takes_val (v := ?_) ?_ (fun w' hS => ?_) ?_
        rotate_left
        · rfl
        · go_simp
          with_reducible rfl
        simp only [Act.put, List.setIfInBounds_toArray, List.set_cons_zero, List.set_cons_succ])
      refine takes_nil ?_
      repeat (
        refine takes_val (v := ?_) ?_ (fun w' hS => ?_) ?_
        rotate_left
        · rfl
        · obtain ⟨k0, k1⟩ := HG.out w' hS
          go_simp
          with_reducible rfl
        simp only [Act.put, List.setIfInBounds_toArray, List.set_cons_zero, List.set_cons_succ])
      refine takes_nil ?_
      obtain ⟨k0, k1⟩ := HG.out w3 hS
      have hA3 := HA.out.on hS
      have hM3 := HM.out.thenBelow hS
      have z0 := Blk.free hA3 i
      have hAx := hA3.set (i := i) (by omega) vJ
      have z2 := Blk.free hAx J
      have z3 := hAx.get (i := J) (by simp; omega)
      have hA4 : ArrAt ((w3.setCell ⟨g, i, none⟩ (.int .u64 (vJ : Nat))).setCell ⟨g, J, none⟩ (.int .u64 (vI : Nat))) g (Sort.swp d' i J) rest := by
        have := hA3.swap (i := i) (j := J) (by omega) (by omega)
        rw [hvI, hvJ] at this
        exact this
      have hM4 : Mod [g] w ((w3.setCell ⟨g, i, none⟩ (.int .u64 (vJ : Nat))).setCell ⟨g, J, none⟩ (.int .u64 (vI : Nat))) := (hM3.setCell _ _ (.inl (by simp))).setCell _ _ (.inl (by simp))
      clear hAx hA3 hM3
      generalize hz3 : ((d'.setIfInBounds i vJ)[J]! : Nat) = x3 at z3
      clear hz3 hvI hvJ
      refine seqW_step (by rfl) (fun K hK => ?_)
      go_simp
      refine hK.out _ _ (.inl (by rfl)) ?_
      clear hK K
      refine seqW_step (by rfl) (fun K hK => ?_)
      go_simp
      refine hK.out _ _ (.inl (by rfl)) ?_
      clear hK K
      refine seqW_step (by rfl) (fun K hK => ?_)
      go_simp
      refine hK.out _ _ (.inl (by rfl)) ?_
      clear hK K
      refine seqW_step (by rfl) (fun K hK => ?_)
      go_simp
      refine hK.out _ _ (.inl (by rfl)) (seqW_nil ?_)
      clear hK K HG hS k0 k1 z0 z2 z3
      generalize (w3.setCell ⟨g, i, none⟩ (.int .u64 (vJ : Nat))).setCell ⟨g, J, none⟩ (.int .u64 (vI : Nat)) = w4 at *
      go_wp2_with fail
      go_roundw
      case rel => exact ⟨i + 1, (J : Int) - 1, Sort.swp d' i J, by go_num, rfl, by omega, by omega, by omega, by rw [Sort.size_swp]; exact hsz', fun h0 => by rw [show ((J : Int) - 1).toNat = J - 1 by omega]; exact HSt.out, fun h0 => by omega, hA4, hM4⟩
      case measure => simp [intOf]; omega
    · have HE := Lib.hid (show ArrEnd g (Sort.reverseRange d a b) rest w (.returned (.tuple #[])) wr from by
        have e : d' = Sort.reverseRange d a b := by
          by_cases h0 : 0 ≤ j
          · rw [← HR.out h0]
            unfold Sort.reverseLoop
            rw [if_neg (by omega)]
          · exact HR0.out (by omega)
        exact ⟨rfl, by rw [← e]; exact HA.out, HM.out⟩)
      go_wp2_with fail
      go_end0
      exact HE.out
end Go.Proofs.Ytffianjbljgnaaa
