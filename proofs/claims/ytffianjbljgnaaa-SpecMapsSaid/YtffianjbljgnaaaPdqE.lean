/-
  partitionEqualOrdered at numbers without a sign: as the plain one. Condition: the row's length is one that a machine has. (Printed by gen_pdqp.py.)
-/
import Derived.Test.YtffianjbljgnaaaPdqA
import Derived.Test.YtffianjbljgnaaaSettleF
import Derived.Deep.DeepCutAuto
import Derived.Deep.CutBlock
namespace Go.Proofs.Ytffianjbljgnaaa
set_option linter.unusedVariables false
set_option linter.unusedSimpArgs false
open Go.RowKit
def PartEqEnd (g : Nat) (r : Nat × Array Nat) (rest : List Value) (w : World) (e : Ending) (w' : World) : Prop := e = .returned (.int .i64 (r.1 : Nat)) ∧ ArrAt w' g r.2 rest ∧ Mod [g] w w'
set_option maxRecDepth 100000 in
set_option maxHeartbeats 8000000 in
theorem partitionEqual_any (g : Nat) (d : Array Nat) (rest : List Value) (cap a b pivot : Nat) (hap : a ≤ pivot) (hpb : pivot < b) (hb : b ≤ d.size) (hcap : d.size ≤ cap) (hsz : d.size ≤ 1000000) (w : World) (h : ArrAt w g d rest) :
    Calls Try.prog 85 #[.slice (some ⟨g, 0, none⟩) d.size cap, .int .i64 a, .int .i64 b, .int .i64 pivot] w (PartEqEnd g (Sort.partitionEqual below64 d a b pivot) rest w) := by
  obtain ⟨n, hn⟩ : ∃ n, d.size = n := ⟨_, rfl⟩
  rw [hn]
  have HA := Lib.hid h
  have HM := Lib.hid (Mod.refl [g] w)
  have han : (a : Int) < (n : Int) := by omega
  have hpn : (pivot : Int) < (n : Int) := by omega
  clear h
  go_enter Try.func85, Try.ntmps85
  go_upto_region 1 with fail
  have HG := Lib.hid (show ∀ w', Below w.heap.size w w' → (w'.cell? ⟨g, a, none⟩ = some (.int .u64 (d[a]! : Nat)) ∧ w'.cell? ⟨g, pivot, none⟩ = some (.int .u64 (d[pivot]! : Nat))) from
    fun w' hb => ⟨(HA.out.on hb).get (by omega), (HA.out.on hb).get (by omega)⟩)
  obtain ⟨vI, hvI⟩ : ∃ x, d[a]! = x := ⟨_, rfl⟩
  obtain ⟨vJ, hvJ⟩ : ∃ x, d[pivot]! = x := ⟨_, rfl⟩
  rw [hvI, hvJ] at HG
  refine wp_region_float2 [2, 3] [0, 1, 4, 5, 6, 7, 8, 9, 10, 11] [12, 13, 14, 15] [12, 13, 14, 15] (Below w.heap.size w) (by kernel_rfl) (by kernel_rfl) (by kernel_rfl) (by kernel_rfl) (fun c a d v w h => by cases d <;> exact h) (below_drew (Below.refl _ _)) ?_
  have hS : Below w.heap.size w { w with drawn := w.drawn + 1 } := below_drew (Below.refl _ _)
  generalize ({ w with drawn := w.drawn + 1 } : World) = w3 at *
  simp only [pick, List.map_cons, List.map_nil, List.getD_cons_zero, List.getD_cons_succ]
  repeat (
    refine takes_val (v := ?_) ?_ (fun w' hS => ?_) ?_
    rotate_left
    · rfl
    · go_simp
      with_reducible rfl
    simp only [Act.put, List.setIfInBounds_toArray, List.set_cons_zero, List.set_cons_succ])
  refine takes_nil ?_
  repeat (
    refine takes_val (v := ?_) ?_ (fun w' hS => ?_) ?_
    rotate_left
    · rfl
    · obtain ⟨k0, k1⟩ := HG.out w' hS
      go_simp
      with_reducible rfl
    simp only [Act.put, List.setIfInBounds_toArray, List.set_cons_zero, List.set_cons_succ])
  refine takes_nil ?_
  obtain ⟨k0, k1⟩ := HG.out w3 hS
  have hA3 := HA.out.on hS
  have hM3 := HM.out.thenBelow hS
  have z0 := Blk.free hA3 a
  have hAx := hA3.set (i := a) (by omega) vJ
  have z2 := Blk.free hAx pivot
  have z3 := hAx.get (i := pivot) (by simp; omega)
  have hA4 : ArrAt ((w3.setCell ⟨g, a, none⟩ (.int .u64 (vJ : Nat))).setCell ⟨g, pivot, none⟩ (.int .u64 (vI : Nat))) g (Sort.swp d a pivot) rest := by
    have := hA3.swap (i := a) (j := pivot) (by omega) (by omega)
    rw [hvI, hvJ] at this
    exact this
  have hM4 : Mod [g] w ((w3.setCell ⟨g, a, none⟩ (.int .u64 (vJ : Nat))).setCell ⟨g, pivot, none⟩ (.int .u64 (vI : Nat))) := (hM3.setCell _ _ (.inl (by simp))).setCell _ _ (.inl (by simp))
  clear hAx hA3 hM3
  generalize hz3 : ((d.setIfInBounds a vJ)[pivot]! : Nat) = x3 at z3
  clear hz3 hvI hvJ
  refine seqW_step (by rfl) (fun K hK => ?_)
  go_simp
  refine hK.out _ _ (.inl (by rfl)) ?_
  clear hK K
  refine seqW_step (by rfl) (fun K hK => ?_)
  go_simp
  refine hK.out _ _ (.inl (by rfl)) ?_
  clear hK K
  refine seqW_step (by rfl) (fun K hK => ?_)
  go_simp
  refine hK.out _ _ (.inl (by rfl)) ?_
  clear hK K
  refine seqW_step (by rfl) (fun K hK => ?_)
  go_simp
  refine hK.out _ _ (.inl (by rfl)) (seqW_nil ?_)
  clear hK K HG hS k0 k1 z0 z2 z3
  generalize (w3.setCell ⟨g, a, none⟩ (.int .u64 (vJ : Nat))).setCell ⟨g, pivot, none⟩ (.int .u64 (vI : Nat)) = w4 at *
  obtain ⟨d1, hd1⟩ : ∃ x, Sort.swp d a pivot = x := ⟨_, rfl⟩
  rw [hd1] at hA4
  have hz1 : d1.size = n := by rw [← hd1, Sort.size_swp, hn]
  have HAw4 := Lib.hid hA4
  have HMw4 := Lib.hid hM4
  clear hA4 hM4 HA HM
  obtain ⟨i0, hi0⟩ : ∃ x, a + 1 = x := ⟨_, rfl⟩
  obtain ⟨j0, hj0⟩ : ∃ x, b - 1 = x := ⟨_, rfl⟩
  have hi0i : (a : Int) + 1 = (i0 : Int) := by omega
  have hj0i : (b : Int) - 1 = (j0 : Int) := by omega
  obtain ⟨R, hR⟩ : ∃ R, Sort.partEqLoop below64 a i0 j0 d1 = R := ⟨_, rfl⟩
  have HPart := Lib.hid (show Sort.partitionEqual below64 d a b pivot = R by unfold Sort.partitionEqual; rw [hd1, hi0, hj0, hR])
  have HSt := Lib.hid (show ∃ (i j : Nat) (dd : Array Nat), Value.int .i64 (i0 : Int) = .int .i64 i ∧ Value.int .i64 (j0 : Int) = .int .i64 j ∧ Sort.partEqLoop below64 a i j dd = R ∧ dd.size = n ∧ 1 ≤ i ∧ i ≤ n ∧ j < n ∧ ArrAt w4 g dd rest ∧ Mod [g] w w4 from ⟨i0, j0, d1, rfl, rfl, hR, hz1, by omega, by omega, by omega, HAw4.out, HMw4.out⟩)
  clear HAw4 HMw4 hz1 hR hd1
  go_upto_block 0 with fail
  go_cut [9, 10] (fun s9 s10 wx => ∃ (i : Nat) (dd : Array Nat), s9 = .int .i64 i ∧ R = (i, dd) ∧ ArrAt wx g dd rest ∧ Mod [g] w wx)
  case first =>
    go_wp2_with fail
    go_loopw [9, 10] (fun s10 s11 wr => ∃ (i j : Nat) (dd : Array Nat), s10 = .int .i64 i ∧ s11 = .int .i64 j ∧ Sort.partEqLoop below64 a i j dd = R ∧ dd.size = n ∧ 1 ≤ i ∧ i ≤ n ∧ j < n ∧ ArrAt wr g dd rest ∧ Mod [g] w wr) (fun s10 s11 _ => (intOf s11 + 1 - intOf s10).toNat)
    case atStart => exact HSt.out
    case round =>
      clear HSt
      obtain ⟨i, j, dd, rfl, rfl, hpl, hzz, hi1', hin, hjn, hA, hm⟩ := hrel
      have HAwr0 := Lib.hid hA
      have HMwr0 := Lib.hid hm
      have HPl := Lib.hid hpl
      clear hA hm hpl
      generalize wr = wr0 at *
      go_upto_block 2 with fail
      go_cut [9] (fun s wx => ∃ k : Nat, s = .int .i64 k ∧ i ≤ k ∧ (k ≤ j + 1 ∨ k = i) ∧ Sort.scanUp (fun x => !below64 dd[a]! x) dd j i = k ∧ Below wr0.heap.size wr0 wx)
      case first =>
        go_wp2_with fail
        go_loopw [9] (fun s wr => ∃ k : Nat, s = .int .i64 k ∧ i ≤ k ∧ (k ≤ j + 1 ∨ k = i) ∧ Sort.scanUp (fun x => !below64 dd[a]! x) dd j k = Sort.scanUp (fun x => !below64 dd[a]! x) dd j i ∧ Below wr0.heap.size wr0 wr) (fun s _ => j + 1 - (intOf s).toNat)
        case atStart => exact ⟨i, rfl, by omega, by omega, rfl, Below.refl _ _⟩
        case round =>
          obtain ⟨k, rfl, hk1, hk2, hkeq, hbk⟩ := hrel
          have HAk := Lib.hid (HAwr0.out.on hbk)
          have HBk := Lib.hid hbk
          have HEq := Lib.hid hkeq
          clear hkeq hbk
          by_cases hgo : k ≤ j
          · have hgoi : (k : Int) ≤ (j : Int) := by omega
            have hkn : (k : Int) < (n : Int) := by omega
            obtain ⟨vk, hvk⟩ : ∃ x, dd[k]! = x := ⟨_, rfl⟩
            obtain ⟨va, hva⟩ : ∃ x, dd[a]! = x := ⟨_, rfl⟩
            have HF := Lib.hid (show ∀ w', Below wr.heap.size wr w' → (w'.cell? ⟨g, k, none⟩ = some (.int .u64 (vk : Nat)) ∧ w'.cell? ⟨g, a, none⟩ = some (.int .u64 (va : Nat))) from fun w' hb => ⟨by rw [← hvk]; exact (HAk.out.on hb).get (by omega), by rw [← hva]; exact (HAk.out.on hb).get (by omega)⟩)
            cases hlss : below64 va vk with
            | false =>
              have HL := Lib.hid hlss
              have HNx := Lib.hid (show Sort.scanUp (fun x => !below64 dd[a]! x) dd j (k + 1) = Sort.scanUp (fun x => !below64 dd[a]! x) dd j i by
                rw [← HEq.out]
                conv => rhs; unfold Sort.scanUp
                rw [if_pos (by simp [hvk, hva, hlss, hgo])])
              clear hlss hvk hva
              go_upto_region 3 with fail
              refine wp_region_settleF (Below wr.heap.size wr) (by kernel_rfl) (by kernel_rfl) (by kernel_rfl) (below_drew (Below.refl _ _)) ?_
              repeat (first
                | (refine settled_not ?_ ?_
                   · rfl
                   simp only [Act.put, List.setIfInBounds_toArray, List.set_cons_zero, List.set_cons_succ])
                | (refine settled_val (v := ?_) ?_ (fun w' hS => ?_) ?_
                   rotate_left
                   · rfl
                   · obtain ⟨k0, k1⟩ := HF.out w' hS
                     go_simp
                     with_reducible rfl
                   simp only [Act.put, List.setIfInBounds_toArray, List.set_cons_zero, List.set_cons_succ])
                | (refine settled_call (f := 84) (v := .bool false) ?_ (fun w' hS => ?_) (fun w' hS => ((less_any va vk w').mono fun e w'' ⟨h1, h2⟩ => ⟨by rw [h1, HL.out], h2 ▸ hS⟩)) ?_
                   · rfl
                   · go_simp
                   simp only [Act.put, List.setIfInBounds_toArray, List.set_cons_zero, List.set_cons_succ]))
              refine settled_nil (fun w2 hS => ?_)
              have HB2 := Lib.hid (HBk.out.trans (hS.mono HBk.out.size))
              clear hS HF
              go_wp2_with fail
              go_roundw
              case rel => exact ⟨k + 1, by go_num, by omega, by omega, HNx.out, HB2.out⟩
              case measure => simp [intOf]; omega
            | true =>
              have HL := Lib.hid hlss
              have HSt := Lib.hid (show Sort.scanUp (fun x => !below64 dd[a]! x) dd j i = k by
                rw [← HEq.out]
                unfold Sort.scanUp
                rw [if_neg (by simp [hvk, hva, hlss])])
              clear hlss hvk hva
              go_upto_region 3 with fail
              refine wp_region_settleF (Below wr.heap.size wr) (by kernel_rfl) (by kernel_rfl) (by kernel_rfl) (below_drew (Below.refl _ _)) ?_
              repeat (first
                | (refine settled_not ?_ ?_
                   · rfl
                   simp only [Act.put, List.setIfInBounds_toArray, List.set_cons_zero, List.set_cons_succ])
                | (refine settled_val (v := ?_) ?_ (fun w' hS => ?_) ?_
                   rotate_left
                   · rfl
                   · obtain ⟨k0, k1⟩ := HF.out w' hS
                     go_simp
                     with_reducible rfl
                   simp only [Act.put, List.setIfInBounds_toArray, List.set_cons_zero, List.set_cons_succ])
                | (refine settled_call (f := 84) (v := .bool true) ?_ (fun w' hS => ?_) (fun w' hS => ((less_any va vk w').mono fun e w'' ⟨h1, h2⟩ => ⟨by rw [h1, HL.out], h2 ▸ hS⟩)) ?_
                   · rfl
                   · go_simp
                   simp only [Act.put, List.setIfInBounds_toArray, List.set_cons_zero, List.set_cons_succ]))
              refine settled_nil (fun w2 hS => ?_)
              have HB2 := Lib.hid (HBk.out.trans (hS.mono HBk.out.size))
              clear hS HF
              go_wp2_with fail
              go_meet
              exact ⟨k, rfl, hk1, hk2, HSt.out, HB2.out⟩
          · have hgoi : ¬ (k : Int) ≤ (j : Int) := by omega
            have HSt := Lib.hid (show Sort.scanUp (fun x => !below64 dd[a]! x) dd j i = k by
              rw [← HEq.out]
              unfold Sort.scanUp
              rw [if_neg (by simp [hgo])])
            go_upto_region 3 with fail
            refine wp_region_settleF (Below wr.heap.size wr) (by kernel_rfl) (by kernel_rfl) (by kernel_rfl) (below_drew (Below.refl _ _)) ?_
            repeat (first
              | (refine settled_not ?_ ?_
                 · rfl
                 simp only [Act.put, List.setIfInBounds_toArray, List.set_cons_zero, List.set_cons_succ])
              | (refine settled_val (v := ?_) ?_ (fun w' hS => ?_) ?_
                 rotate_left
                 · rfl
                 · skip
                   go_simp
                   with_reducible rfl
                 simp only [Act.put, List.setIfInBounds_toArray, List.set_cons_zero, List.set_cons_succ]))
            refine settled_nil (fun w2 hS => ?_)
            have HB2 := Lib.hid (HBk.out.trans (hS.mono HBk.out.size))
            clear hS
            go_wp2_with fail
            go_meet
            exact ⟨k, rfl, hk1, hk2, HSt.out, HB2.out⟩
      rename World => wa
      obtain ⟨i2, rfl, hi21, hi22, hi2, hbwa⟩ := hcut
      have HAwa := Lib.hid (HAwr0.out.on hbwa)
      have HMwa := Lib.hid (HMwr0.out.thenBelow hbwa)
      clear hbwa
      go_upto_block 4 with fail
      go_cut [10] (fun s wx => ∃ k : Nat, s = .int .i64 k ∧ k ≤ j ∧ (i2 ≤ k + 1 ∨ k = j) ∧ Sort.scanDown (fun x => below64 dd[a]! x) dd i2 j = k ∧ Below wa.heap.size wa wx)
      case first =>
        go_wp2_with fail
        go_loopw [10] (fun s wr => ∃ k : Nat, s = .int .i64 k ∧ k ≤ j ∧ (i2 ≤ k + 1 ∨ k = j) ∧ Sort.scanDown (fun x => below64 dd[a]! x) dd i2 k = Sort.scanDown (fun x => below64 dd[a]! x) dd i2 j ∧ Below wa.heap.size wa wr) (fun s _ => (intOf s).toNat)
        case atStart => exact ⟨j, rfl, by omega, by omega, rfl, Below.refl _ _⟩
        case round =>
          obtain ⟨k, rfl, hk1, hk2, hkeq, hbk⟩ := hrel
          have HAk := Lib.hid (HAwa.out.on hbk)
          have HBk := Lib.hid hbk
          have HEq := Lib.hid hkeq
          clear hkeq hbk
          by_cases hgo : i2 ≤ k
          · have hgoi : (i2 : Int) ≤ (k : Int) := by omega
            have hkn : (k : Int) < (n : Int) := by omega
            obtain ⟨vk, hvk⟩ : ∃ x, dd[k]! = x := ⟨_, rfl⟩
            obtain ⟨va, hva⟩ : ∃ x, dd[a]! = x := ⟨_, rfl⟩
            have HF := Lib.hid (show ∀ w', Below wr.heap.size wr w' → (w'.cell? ⟨g, k, none⟩ = some (.int .u64 (vk : Nat)) ∧ w'.cell? ⟨g, a, none⟩ = some (.int .u64 (va : Nat))) from fun w' hb => ⟨by rw [← hvk]; exact (HAk.out.on hb).get (by omega), by rw [← hva]; exact (HAk.out.on hb).get (by omega)⟩)
            cases hlss : below64 va vk with
            | true =>
              have HL := Lib.hid hlss
              have HNx := Lib.hid (show Sort.scanDown (fun x => below64 dd[a]! x) dd i2 (k - 1) = Sort.scanDown (fun x => below64 dd[a]! x) dd i2 j by
                rw [← HEq.out]
                obtain ⟨m, rfl⟩ : ∃ m, k = m + 1 := ⟨k - 1, by omega⟩
                conv => rhs; unfold Sort.scanDown
                rw [Nat.add_sub_cancel]
                rw [if_pos (by simp [hvk, hva, hlss, hgo])])
              clear hlss hvk hva
              go_upto_region 5 with fail
              refine wp_region_settleF (Below wr.heap.size wr) (by kernel_rfl) (by kernel_rfl) (by kernel_rfl) (below_drew (Below.refl _ _)) ?_
              repeat (first
                | (refine settled_not ?_ ?_
                   · rfl
                   simp only [Act.put, List.setIfInBounds_toArray, List.set_cons_zero, List.set_cons_succ])
                | (refine settled_val (v := ?_) ?_ (fun w' hS => ?_) ?_
                   rotate_left
                   · rfl
                   · obtain ⟨k0, k1⟩ := HF.out w' hS
                     go_simp
                     with_reducible rfl
                   simp only [Act.put, List.setIfInBounds_toArray, List.set_cons_zero, List.set_cons_succ])
                | (refine settled_call (f := 84) (v := .bool true) ?_ (fun w' hS => ?_) (fun w' hS => ((less_any va vk w').mono fun e w'' ⟨h1, h2⟩ => ⟨by rw [h1, HL.out], h2 ▸ hS⟩)) ?_
                   · rfl
                   · go_simp
                   simp only [Act.put, List.setIfInBounds_toArray, List.set_cons_zero, List.set_cons_succ]))
              refine settled_nil (fun w2 hS => ?_)
              have HB2 := Lib.hid (HBk.out.trans (hS.mono HBk.out.size))
              clear hS HF
              go_wp2_with fail
              go_roundw
              case rel => exact ⟨k - 1, by rw [show ((k - 1 : Nat) : Int) = (k : Int) - 1 by omega], by omega, by omega, HNx.out, HB2.out⟩
              case measure => simp [intOf]; omega
            | false =>
              have HL := Lib.hid hlss
              have HSt := Lib.hid (show Sort.scanDown (fun x => below64 dd[a]! x) dd i2 j = k by
                rw [← HEq.out]
                obtain ⟨m, rfl⟩ : ∃ m, k = m + 1 := ⟨k - 1, by omega⟩
                unfold Sort.scanDown
                rw [if_neg (by simp [hvk, hva, hlss])])
              clear hlss hvk hva
              go_upto_region 5 with fail
              refine wp_region_settleF (Below wr.heap.size wr) (by kernel_rfl) (by kernel_rfl) (by kernel_rfl) (below_drew (Below.refl _ _)) ?_
              repeat (first
                | (refine settled_not ?_ ?_
                   · rfl
                   simp only [Act.put, List.setIfInBounds_toArray, List.set_cons_zero, List.set_cons_succ])
                | (refine settled_val (v := ?_) ?_ (fun w' hS => ?_) ?_
                   rotate_left
                   · rfl
                   · obtain ⟨k0, k1⟩ := HF.out w' hS
                     go_simp
                     with_reducible rfl
                   simp only [Act.put, List.setIfInBounds_toArray, List.set_cons_zero, List.set_cons_succ])
                | (refine settled_call (f := 84) (v := .bool false) ?_ (fun w' hS => ?_) (fun w' hS => ((less_any va vk w').mono fun e w'' ⟨h1, h2⟩ => ⟨by rw [h1, HL.out], h2 ▸ hS⟩)) ?_
                   · rfl
                   · go_simp
                   simp only [Act.put, List.setIfInBounds_toArray, List.set_cons_zero, List.set_cons_succ]))
              refine settled_nil (fun w2 hS => ?_)
              have HB2 := Lib.hid (HBk.out.trans (hS.mono HBk.out.size))
              clear hS HF
              go_wp2_with fail
              go_meet
              exact ⟨k, rfl, hk1, hk2, HSt.out, HB2.out⟩
          · have hgoi : ¬ (i2 : Int) ≤ (k : Int) := by omega
            have HSt := Lib.hid (show Sort.scanDown (fun x => below64 dd[a]! x) dd i2 j = k by
              rw [← HEq.out]
              cases k with
              | zero => rfl
              | succ m =>
                unfold Sort.scanDown
                rw [if_neg (by simp [hgo])])
            go_upto_region 5 with fail
            refine wp_region_settleF (Below wr.heap.size wr) (by kernel_rfl) (by kernel_rfl) (by kernel_rfl) (below_drew (Below.refl _ _)) ?_
            repeat (first
              | (refine settled_not ?_ ?_
                 · rfl
                 simp only [Act.put, List.setIfInBounds_toArray, List.set_cons_zero, List.set_cons_succ])
              | (refine settled_val (v := ?_) ?_ (fun w' hS => ?_) ?_
                 rotate_left
                 · rfl
                 · skip
                   go_simp
                   with_reducible rfl
                 simp only [Act.put, List.setIfInBounds_toArray, List.set_cons_zero, List.set_cons_succ]))
            refine settled_nil (fun w2 hS => ?_)
            have HB2 := Lib.hid (HBk.out.trans (hS.mono HBk.out.size))
            clear hS
            go_wp2_with fail
            go_meet
            exact ⟨k, rfl, hk1, hk2, HSt.out, HB2.out⟩
      rename World => wb
      obtain ⟨j2, rfl, hj21, hj22, hj2, hbwb⟩ := hcut
      have HAwb := Lib.hid (HAwa.out.on hbwb)
      have HMwb := Lib.hid (HMwa.out.thenBelow hbwb)
      clear hbwb
      have HEq := Lib.hid (Sort.partEqLoop_eq (lt := below64) a i j dd)
      simp only [hi2, hj2] at HEq
      clear hi2 hj2
      by_cases hgt2 : i2 > j2
      · have hgti2 : (j2 : Int) < (i2 : Int) := by omega
        have HD := Lib.hid (show R = (i2, dd) by rw [← HPl.out, HEq.out, if_pos hgt2])
        go_wp2_with fail
        go_meet
        exact ⟨i2, dd, rfl, HD.out, HAwb.out, HMwb.out⟩
      · have hgti2 : ¬ (j2 : Int) < (i2 : Int) := by omega
        have hi2n : (i2 : Int) < (n : Int) := by omega
        have hj2n : (j2 : Int) < (n : Int) := by omega
        have HD := Lib.hid (show Sort.partEqLoop below64 a (i2 + 1) (j2 - 1) (Sort.swp dd i2 j2) = R by rw [← HPl.out, HEq.out, if_neg hgt2])
        go_upto_region 8 with fail
        have HG := Lib.hid (show ∀ w', Below wb.heap.size wb w' → (w'.cell? ⟨g, i2, none⟩ = some (.int .u64 (dd[i2]! : Nat)) ∧ w'.cell? ⟨g, j2, none⟩ = some (.int .u64 (dd[j2]! : Nat))) from
          fun w' hb => ⟨(HAwb.out.on hb).get (by omega), (HAwb.out.on hb).get (by omega)⟩)
        obtain ⟨vI, hvI⟩ : ∃ x, dd[i2]! = x := ⟨_, rfl⟩
        obtain ⟨vJ, hvJ⟩ : ∃ x, dd[j2]! = x := ⟨_, rfl⟩
        rw [hvI, hvJ] at HG
        refine wp_region_float2 [2, 3] [0, 1, 4, 5, 6, 7, 8, 9, 10, 11] [12, 13, 14, 15] [12, 13, 14, 15] (Below wb.heap.size wb) (by kernel_rfl) (by kernel_rfl) (by kernel_rfl) (by kernel_rfl) (fun c a d v w h => by cases d <;> exact h) (below_drew (Below.refl _ _)) ?_
        have hS : Below wb.heap.size wb { wb with drawn := wb.drawn + 1 } := below_drew (Below.refl _ _)
        generalize ({ wb with drawn := wb.drawn + 1 } : World) = w3 at *
        simp only [pick, List.map_cons, List.map_nil, List.getD_cons_zero, List.getD_cons_succ]
        repeat (
          refine takes_val (v := ?_) ?_ (fun w' hS => ?_) ?_
          rotate_left
          · rfl
          · go_simp
            with_reducible rfl
          simp only [Act.put, List.setIfInBounds_toArray, List.set_cons_zero, List.set_cons_succ])
        refine takes_nil ?_
        repeat (
          refine takes_val (v := ?_) ?_ (fun w' hS => ?_) ?_
          rotate_left
          · rfl
          · obtain ⟨k0, k1⟩ := HG.out w' hS
            go_simp
            with_reducible rfl
          simp only [Act.put, List.setIfInBounds_toArray, List.set_cons_zero, List.set_cons_succ])
        refine takes_nil ?_
        obtain ⟨k0, k1⟩ := HG.out w3 hS
        have hA3 := HAwb.out.on hS
        have hM3 := HMwb.out.thenBelow hS
        have z0 := Blk.free hA3 i2
        have hAx := hA3.set (i := i2) (by omega) vJ
        have z2 := Blk.free hAx j2
        have z3 := hAx.get (i := j2) (by simp; omega)
        have hA4 : ArrAt ((w3.setCell ⟨g, i2, none⟩ (.int .u64 (vJ : Nat))).setCell ⟨g, j2, none⟩ (.int .u64 (vI : Nat))) g (Sort.swp dd i2 j2) rest := by
          have := hA3.swap (i := i2) (j := j2) (by omega) (by omega)
          rw [hvI, hvJ] at this
          exact this
        have hM4 : Mod [g] w ((w3.setCell ⟨g, i2, none⟩ (.int .u64 (vJ : Nat))).setCell ⟨g, j2, none⟩ (.int .u64 (vI : Nat))) := (hM3.setCell _ _ (.inl (by simp))).setCell _ _ (.inl (by simp))
        clear hAx hA3 hM3
        generalize hz3 : ((dd.setIfInBounds i2 vJ)[j2]! : Nat) = x3 at z3
        clear hz3 hvI hvJ
        refine seqW_step (by rfl) (fun K hK => ?_)
        go_simp
        refine hK.out _ _ (.inl (by rfl)) ?_
        clear hK K
        refine seqW_step (by rfl) (fun K hK => ?_)
        go_simp
        refine hK.out _ _ (.inl (by rfl)) ?_
        clear hK K
        refine seqW_step (by rfl) (fun K hK => ?_)
        go_simp
        refine hK.out _ _ (.inl (by rfl)) ?_
        clear hK K
        refine seqW_step (by rfl) (fun K hK => ?_)
        go_simp
        refine hK.out _ _ (.inl (by rfl)) (seqW_nil ?_)
        clear hK K HG hS k0 k1 z0 z2 z3
        generalize (w3.setCell ⟨g, i2, none⟩ (.int .u64 (vJ : Nat))).setCell ⟨g, j2, none⟩ (.int .u64 (vI : Nat)) = w4 at *
        go_wp2_with fail
        go_roundw
        case rel => exact ⟨i2 + 1, j2 - 1, Sort.swp dd i2 j2, by go_num, by rw [show ((j2 - 1 : Nat) : Int) = (j2 : Int) - 1 by omega], HD.out, by rw [Sort.size_swp]; exact hzz, by omega, by omega, by omega, hA4, hM4⟩
        case measure => simp [intOf]; omega
  rename World => wc
  obtain ⟨i, dd, rfl, hRj, hA, hm⟩ := hcut
  have HE := Lib.hid (show PartEqEnd g (Sort.partitionEqual below64 d a b pivot) rest w (.returned (.int .i64 (i : Nat))) wc from by rw [HPart.out, hRj]; exact ⟨rfl, hA, hm⟩)
  clear hA hm HSt
  go_wp2_with fail
  go_ret
  exact HE.out
end Go.Proofs.Ytffianjbljgnaaa
