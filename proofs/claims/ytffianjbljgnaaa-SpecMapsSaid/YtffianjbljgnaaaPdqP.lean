/-
  partitionOrdered at numbers without a sign: as the plain one. Condition: the row's length is one that a machine has. (Printed by gen_pdqp.py.)
-/
import Derived.Test.YtffianjbljgnaaaPdqA
import Derived.Test.YtffianjbljgnaaaSettleF
import Derived.Deep.DeepCutAuto
import Derived.Deep.CutBlock
namespace Go.Proofs.Ytffianjbljgnaaa
set_option linter.unusedVariables false
set_option linter.unusedSimpArgs false
open Go.RowKit
def PartEnd (g : Nat) (r : Nat × Bool × Array Nat) (rest : List Value) (w : World) (e : Ending) (w' : World) : Prop := e = .returned (.tuple #[.int .i64 (r.1 : Nat), .bool r.2.1]) ∧ ArrAt w' g r.2.2 rest ∧ Mod [g] w w'
set_option maxRecDepth 100000 in
set_option maxHeartbeats 8000000 in
theorem partition_any (g : Nat) (d : Array Nat) (rest : List Value) (cap a b pivot : Nat) (hap : a ≤ pivot) (hpb : pivot < b) (hb : b ≤ d.size) (hcap : d.size ≤ cap) (hsz : d.size ≤ 1000000) (w : World) (h : ArrAt w g d rest) :
    Calls Try.prog 86 #[.slice (some ⟨g, 0, none⟩) d.size cap, .int .i64 a, .int .i64 b, .int .i64 pivot] w (PartEnd g (Sort.partition below64 d a b pivot) rest w) := by
  obtain ⟨n, hn⟩ : ∃ n, d.size = n := ⟨_, rfl⟩
  rw [hn]
  have HA := Lib.hid h
  have HM := Lib.hid (Mod.refl [g] w)
  have han : (a : Int) < (n : Int) := by omega
  have hpn : (pivot : Int) < (n : Int) := by omega
  clear h
  go_enter Try.func86, Try.ntmps86
  go_upto_region 1 with fail
  have HG := Lib.hid (show ∀ w', Below w.heap.size w w' → (w'.cell? ⟨g, a, none⟩ = some (.int .u64 (d[a]! : Nat)) ∧ w'.cell? ⟨g, pivot, none⟩ = some (.int .u64 (d[pivot]! : Nat))) from
    fun w' hb => ⟨(HA.out.on hb).get (by omega), (HA.out.on hb).get (by omega)⟩)
  obtain ⟨vI, hvI⟩ : ∃ x, d[a]! = x := ⟨_, rfl⟩
  obtain ⟨vJ, hvJ⟩ : ∃ x, d[pivot]! = x := ⟨_, rfl⟩
  rw [hvI, hvJ] at HG
  refine wp_region_float2 [2, 3] [0, 1, 4, 5, 6, 7, 8, 9, 10, 11] [12, 13, 14, 15] [12, 13, 14, 15] (Below w.heap.size w) (by kernel_rfl) (by kernel_rfl) (by kernel_rfl) (by kernel_rfl) (fun c a d v w h => by cases d <;> exact h) (below_drew (Below.refl _ _)) ?_
  have hS : Below w.heap.size w { w with drawn := w.drawn + 1 } := below_drew (Below.refl _ _)
  generalize ({ w with drawn := w.drawn + 1 } : World) = w3 at *
  simp only [pick, List.map_cons, List.map_nil, List.getD_cons_zero, List.getD_cons_succ]
  repeat (
    refine takes_val (v := ?_) ?_ (fun w' hS => ?_) ?_
    rotate_left
    · rfl
    · go_simp
      with_reducible rfl
    simp only [Act.put, List.setIfInBounds_toArray, List.set_cons_zero, List.set_cons_succ])
  refine takes_nil ?_
  repeat (
    refine takes_val (v := ?_) ?_ (fun w' hS => ?_) ?_
    rotate_left
    · rfl
    · obtain ⟨k0, k1⟩ := HG.out w' hS
      go_simp
      with_reducible rfl
    simp only [Act.put, List.setIfInBounds_toArray, List.set_cons_zero, List.set_cons_succ])
  refine takes_nil ?_
  obtain ⟨k0, k1⟩ := HG.out w3 hS
  have hA3 := HA.out.on hS
  have hM3 := HM.out.thenBelow hS
  have z0 := Blk.free hA3 a
  have hAx := hA3.set (i := a) (by omega) vJ
  have z2 := Blk.free hAx pivot
  have z3 := hAx.get (i := pivot) (by simp; omega)
  have hA4 : ArrAt ((w3.setCell ⟨g, a, none⟩ (.int .u64 (vJ : Nat))).setCell ⟨g, pivot, none⟩ (.int .u64 (vI : Nat))) g (Sort.swp d a pivot) rest := by
    have := hA3.swap (i := a) (j := pivot) (by omega) (by omega)
    rw [hvI, hvJ] at this
    exact this
  have hM4 : Mod [g] w ((w3.setCell ⟨g, a, none⟩ (.int .u64 (vJ : Nat))).setCell ⟨g, pivot, none⟩ (.int .u64 (vI : Nat))) := (hM3.setCell _ _ (.inl (by simp))).setCell _ _ (.inl (by simp))
  clear hAx hA3 hM3
  generalize hz3 : ((d.setIfInBounds a vJ)[pivot]! : Nat) = x3 at z3
  clear hz3 hvI hvJ
  refine seqW_step (by rfl) (fun K hK => ?_)
  go_simp
  refine hK.out _ _ (.inl (by rfl)) ?_
  clear hK K
  refine seqW_step (by rfl) (fun K hK => ?_)
  go_simp
  refine hK.out _ _ (.inl (by rfl)) ?_
  clear hK K
  refine seqW_step (by rfl) (fun K hK => ?_)
  go_simp
  refine hK.out _ _ (.inl (by rfl)) ?_
  clear hK K
  refine seqW_step (by rfl) (fun K hK => ?_)
  go_simp
  refine hK.out _ _ (.inl (by rfl)) (seqW_nil ?_)
  clear hK K HG hS k0 k1 z0 z2 z3
  generalize (w3.setCell ⟨g, a, none⟩ (.int .u64 (vJ : Nat))).setCell ⟨g, pivot, none⟩ (.int .u64 (vI : Nat)) = w4 at *
  obtain ⟨d1, hd1⟩ : ∃ x, Sort.swp d a pivot = x := ⟨_, rfl⟩
  rw [hd1] at hA4
  have hz1 : d1.size = n := by rw [← hd1, Sort.size_swp, hn]
  have HAw4 := Lib.hid hA4
  have HMw4 := Lib.hid hM4
  clear hA4 hM4 HA HM
  obtain ⟨i0, hi0⟩ : ∃ x, a + 1 = x := ⟨_, rfl⟩
  obtain ⟨j0, hj0⟩ : ∃ x, b - 1 = x := ⟨_, rfl⟩
  have hi0i : (a : Int) + 1 = (i0 : Int) := by omega
  have hj0i : (b : Int) - 1 = (j0 : Int) := by omega
  go_upto_block 0 with fail
  go_cut [10] (fun s wx => ∃ k : Nat, s = .int .i64 k ∧ i0 ≤ k ∧ (k ≤ j0 + 1 ∨ k = i0) ∧ Sort.scanUp (fun x => below64 x d1[a]!) d1 j0 i0 = k ∧ Below w4.heap.size w4 wx)
  case first =>
    go_wp2_with fail
    go_loopw [10] (fun s wr => ∃ k : Nat, s = .int .i64 k ∧ i0 ≤ k ∧ (k ≤ j0 + 1 ∨ k = i0) ∧ Sort.scanUp (fun x => below64 x d1[a]!) d1 j0 k = Sort.scanUp (fun x => below64 x d1[a]!) d1 j0 i0 ∧ Below w4.heap.size w4 wr) (fun s _ => j0 + 1 - (intOf s).toNat)
    case atStart => exact ⟨i0, rfl, by omega, by omega, rfl, Below.refl _ _⟩
    case round =>
      obtain ⟨k, rfl, hk1, hk2, hkeq, hbk⟩ := hrel
      have HAk := Lib.hid (HAw4.out.on hbk)
      have HBk := Lib.hid hbk
      have HEq := Lib.hid hkeq
      clear hkeq hbk
      by_cases hgo : k ≤ j0
      · have hgoi : (k : Int) ≤ (j0 : Int) := by omega
        have hkn : (k : Int) < (n : Int) := by omega
        obtain ⟨vk, hvk⟩ : ∃ x, d1[k]! = x := ⟨_, rfl⟩
        obtain ⟨va, hva⟩ : ∃ x, d1[a]! = x := ⟨_, rfl⟩
        have HF := Lib.hid (show ∀ w', Below wr.heap.size wr w' → (w'.cell? ⟨g, k, none⟩ = some (.int .u64 (vk : Nat)) ∧ w'.cell? ⟨g, a, none⟩ = some (.int .u64 (va : Nat))) from fun w' hb => ⟨by rw [← hvk]; exact (HAk.out.on hb).get (by omega), by rw [← hva]; exact (HAk.out.on hb).get (by omega)⟩)
        cases hlss : below64 vk va with
        | true =>
          have HL := Lib.hid hlss
          have HNx := Lib.hid (show Sort.scanUp (fun x => below64 x d1[a]!) d1 j0 (k + 1) = Sort.scanUp (fun x => below64 x d1[a]!) d1 j0 i0 by
            rw [← HEq.out]
            conv => rhs; unfold Sort.scanUp
            rw [if_pos (by simp [hvk, hva, hlss, hgo])])
          clear hlss hvk hva
          go_upto_region 3 with fail
          refine wp_region_settleF (Below wr.heap.size wr) (by kernel_rfl) (by kernel_rfl) (by kernel_rfl) (below_drew (Below.refl _ _)) ?_
          repeat (first
            | (refine settled_not ?_ ?_
               · rfl
               simp only [Act.put, List.setIfInBounds_toArray, List.set_cons_zero, List.set_cons_succ])
            | (refine settled_val (v := ?_) ?_ (fun w' hS => ?_) ?_
               rotate_left
               · rfl
               · obtain ⟨k0, k1⟩ := HF.out w' hS
                 go_simp
                 with_reducible rfl
               simp only [Act.put, List.setIfInBounds_toArray, List.set_cons_zero, List.set_cons_succ])
            | (refine settled_call (f := 84) (v := .bool true) ?_ (fun w' hS => ?_) (fun w' hS => ((less_any vk va w').mono fun e w'' ⟨h1, h2⟩ => ⟨by rw [h1, HL.out], h2 ▸ hS⟩)) ?_
               · rfl
               · go_simp
               simp only [Act.put, List.setIfInBounds_toArray, List.set_cons_zero, List.set_cons_succ]))
          refine settled_nil (fun w2 hS => ?_)
          have HB2 := Lib.hid (HBk.out.trans (hS.mono HBk.out.size))
          clear hS HF
          go_wp2_with fail
          go_roundw
          case rel => exact ⟨k + 1, by go_num, by omega, by omega, HNx.out, HB2.out⟩
          case measure => simp [intOf]; omega
        | false =>
          have HL := Lib.hid hlss
          have HSt := Lib.hid (show Sort.scanUp (fun x => below64 x d1[a]!) d1 j0 i0 = k by
            rw [← HEq.out]
            unfold Sort.scanUp
            rw [if_neg (by simp [hvk, hva, hlss])])
          clear hlss hvk hva
          go_upto_region 3 with fail
          refine wp_region_settleF (Below wr.heap.size wr) (by kernel_rfl) (by kernel_rfl) (by kernel_rfl) (below_drew (Below.refl _ _)) ?_
          repeat (first
            | (refine settled_not ?_ ?_
               · rfl
               simp only [Act.put, List.setIfInBounds_toArray, List.set_cons_zero, List.set_cons_succ])
            | (refine settled_val (v := ?_) ?_ (fun w' hS => ?_) ?_
               rotate_left
               · rfl
               · obtain ⟨k0, k1⟩ := HF.out w' hS
                 go_simp
                 with_reducible rfl
               simp only [Act.put, List.setIfInBounds_toArray, List.set_cons_zero, List.set_cons_succ])
            | (refine settled_call (f := 84) (v := .bool false) ?_ (fun w' hS => ?_) (fun w' hS => ((less_any vk va w').mono fun e w'' ⟨h1, h2⟩ => ⟨by rw [h1, HL.out], h2 ▸ hS⟩)) ?_
               · rfl
               · go_simp
               simp only [Act.put, List.setIfInBounds_toArray, List.set_cons_zero, List.set_cons_succ]))
          refine settled_nil (fun w2 hS => ?_)
          have HB2 := Lib.hid (HBk.out.trans (hS.mono HBk.out.size))
          clear hS HF
          go_wp2_with fail
          go_meet
          exact ⟨k, rfl, hk1, hk2, HSt.out, HB2.out⟩
      · have hgoi : ¬ (k : Int) ≤ (j0 : Int) := by omega
        have HSt := Lib.hid (show Sort.scanUp (fun x => below64 x d1[a]!) d1 j0 i0 = k by
          rw [← HEq.out]
          unfold Sort.scanUp
          rw [if_neg (by simp [hgo])])
        go_upto_region 3 with fail
        refine wp_region_settleF (Below wr.heap.size wr) (by kernel_rfl) (by kernel_rfl) (by kernel_rfl) (below_drew (Below.refl _ _)) ?_
        repeat (first
          | (refine settled_not ?_ ?_
             · rfl
             simp only [Act.put, List.setIfInBounds_toArray, List.set_cons_zero, List.set_cons_succ])
          | (refine settled_val (v := ?_) ?_ (fun w' hS => ?_) ?_
             rotate_left
             · rfl
             · skip
               go_simp
               with_reducible rfl
             simp only [Act.put, List.setIfInBounds_toArray, List.set_cons_zero, List.set_cons_succ]))
        refine settled_nil (fun w2 hS => ?_)
        have HB2 := Lib.hid (HBk.out.trans (hS.mono HBk.out.size))
        clear hS
        go_wp2_with fail
        go_meet
        exact ⟨k, rfl, hk1, hk2, HSt.out, HB2.out⟩
  rename World => w5
  obtain ⟨i1, rfl, hi11, hi12, hi1, hbw5⟩ := hcut
  have HAw5 := Lib.hid (HAw4.out.on hbw5)
  have HMw5 := Lib.hid (HMw4.out.thenBelow hbw5)
  clear hbw5
  go_upto_block 2 with fail
  go_cut [11] (fun s wx => ∃ k : Nat, s = .int .i64 k ∧ k ≤ j0 ∧ (i1 ≤ k + 1 ∨ k = j0) ∧ Sort.scanDown (fun x => !below64 x d1[a]!) d1 i1 j0 = k ∧ Below w5.heap.size w5 wx)
  case first =>
    go_wp2_with fail
    go_loopw [11] (fun s wr => ∃ k : Nat, s = .int .i64 k ∧ k ≤ j0 ∧ (i1 ≤ k + 1 ∨ k = j0) ∧ Sort.scanDown (fun x => !below64 x d1[a]!) d1 i1 k = Sort.scanDown (fun x => !below64 x d1[a]!) d1 i1 j0 ∧ Below w5.heap.size w5 wr) (fun s _ => (intOf s).toNat)
    case atStart => exact ⟨j0, rfl, by omega, by omega, rfl, Below.refl _ _⟩
    case round =>
      obtain ⟨k, rfl, hk1, hk2, hkeq, hbk⟩ := hrel
      have HAk := Lib.hid (HAw5.out.on hbk)
      have HBk := Lib.hid hbk
      have HEq := Lib.hid hkeq
      clear hkeq hbk
      by_cases hgo : i1 ≤ k
      · have hgoi : (i1 : Int) ≤ (k : Int) := by omega
        have hkn : (k : Int) < (n : Int) := by omega
        obtain ⟨vk, hvk⟩ : ∃ x, d1[k]! = x := ⟨_, rfl⟩
        obtain ⟨va, hva⟩ : ∃ x, d1[a]! = x := ⟨_, rfl⟩
        have HF := Lib.hid (show ∀ w', Below wr.heap.size wr w' → (w'.cell? ⟨g, k, none⟩ = some (.int .u64 (vk : Nat)) ∧ w'.cell? ⟨g, a, none⟩ = some (.int .u64 (va : Nat))) from fun w' hb => ⟨by rw [← hvk]; exact (HAk.out.on hb).get (by omega), by rw [← hva]; exact (HAk.out.on hb).get (by omega)⟩)
        cases hlss : below64 vk va with
        | false =>
          have HL := Lib.hid hlss
          have HNx := Lib.hid (show Sort.scanDown (fun x => !below64 x d1[a]!) d1 i1 (k - 1) = Sort.scanDown (fun x => !below64 x d1[a]!) d1 i1 j0 by
            rw [← HEq.out]
            obtain ⟨m, rfl⟩ : ∃ m, k = m + 1 := ⟨k - 1, by omega⟩
            conv => rhs; unfold Sort.scanDown
            rw [Nat.add_sub_cancel]
            rw [if_pos (by simp [hvk, hva, hlss, hgo])])
          clear hlss hvk hva
          go_upto_region 5 with fail
          refine wp_region_settleF (Below wr.heap.size wr) (by kernel_rfl) (by kernel_rfl) (by kernel_rfl) (below_drew (Below.refl _ _)) ?_
          repeat (first
            | (refine settled_not ?_ ?_
               · rfl
               simp only [Act.put, List.setIfInBounds_toArray, List.set_cons_zero, List.set_cons_succ])
            | (refine settled_val (v := ?_) ?_ (fun w' hS => ?_) ?_
               rotate_left
               · rfl
               · obtain ⟨k0, k1⟩ := HF.out w' hS
                 go_simp
                 with_reducible rfl
               simp only [Act.put, List.setIfInBounds_toArray, List.set_cons_zero, List.set_cons_succ])
            | (refine settled_call (f := 84) (v := .bool false) ?_ (fun w' hS => ?_) (fun w' hS => ((less_any vk va w').mono fun e w'' ⟨h1, h2⟩ => ⟨by rw [h1, HL.out], h2 ▸ hS⟩)) ?_
               · rfl
               · go_simp
               simp only [Act.put, List.setIfInBounds_toArray, List.set_cons_zero, List.set_cons_succ]))
          refine settled_nil (fun w2 hS => ?_)
          have HB2 := Lib.hid (HBk.out.trans (hS.mono HBk.out.size))
          clear hS HF
          go_wp2_with fail
          go_roundw
          case rel => exact ⟨k - 1, by rw [show ((k - 1 : Nat) : Int) = (k : Int) - 1 by omega], by omega, by omega, HNx.out, HB2.out⟩
          case measure => simp [intOf]; omega
        | true =>
          have HL := Lib.hid hlss
          have HSt := Lib.hid (show Sort.scanDown (fun x => !below64 x d1[a]!) d1 i1 j0 = k by
            rw [← HEq.out]
            obtain ⟨m, rfl⟩ : ∃ m, k = m + 1 := ⟨k - 1, by omega⟩
            unfold Sort.scanDown
            rw [if_neg (by simp [hvk, hva, hlss])])
          clear hlss hvk hva
          go_upto_region 5 with fail
          refine wp_region_settleF (Below wr.heap.size wr) (by kernel_rfl) (by kernel_rfl) (by kernel_rfl) (below_drew (Below.refl _ _)) ?_
          repeat (first
            | (refine settled_not ?_ ?_
               · rfl
               simp only [Act.put, List.setIfInBounds_toArray, List.set_cons_zero, List.set_cons_succ])
            | (refine settled_val (v := ?_) ?_ (fun w' hS => ?_) ?_
               rotate_left
               · rfl
               · obtain ⟨k0, k1⟩ := HF.out w' hS
                 go_simp
                 with_reducible rfl
               simp only [Act.put, List.setIfInBounds_toArray, List.set_cons_zero, List.set_cons_succ])
            | (refine settled_call (f := 84) (v := .bool true) ?_ (fun w' hS => ?_) (fun w' hS => ((less_any vk va w').mono fun e w'' ⟨h1, h2⟩ => ⟨by rw [h1, HL.out], h2 ▸ hS⟩)) ?_
               · rfl
               · go_simp
               simp only [Act.put, List.setIfInBounds_toArray, List.set_cons_zero, List.set_cons_succ]))
          refine settled_nil (fun w2 hS => ?_)
          have HB2 := Lib.hid (HBk.out.trans (hS.mono HBk.out.size))
          clear hS HF
          go_wp2_with fail
          go_meet
          exact ⟨k, rfl, hk1, hk2, HSt.out, HB2.out⟩
      · have hgoi : ¬ (i1 : Int) ≤ (k : Int) := by omega
        have HSt := Lib.hid (show Sort.scanDown (fun x => !below64 x d1[a]!) d1 i1 j0 = k by
          rw [← HEq.out]
          cases k with
          | zero => rfl
          | succ m =>
            unfold Sort.scanDown
            rw [if_neg (by simp [hgo])])
        go_upto_region 5 with fail
        refine wp_region_settleF (Below wr.heap.size wr) (by kernel_rfl) (by kernel_rfl) (by kernel_rfl) (below_drew (Below.refl _ _)) ?_
        repeat (first
          | (refine settled_not ?_ ?_
             · rfl
             simp only [Act.put, List.setIfInBounds_toArray, List.set_cons_zero, List.set_cons_succ])
          | (refine settled_val (v := ?_) ?_ (fun w' hS => ?_) ?_
             rotate_left
             · rfl
             · skip
               go_simp
               with_reducible rfl
             simp only [Act.put, List.setIfInBounds_toArray, List.set_cons_zero, List.set_cons_succ]))
        refine settled_nil (fun w2 hS => ?_)
        have HB2 := Lib.hid (HBk.out.trans (hS.mono HBk.out.size))
        clear hS
        go_wp2_with fail
        go_meet
        exact ⟨k, rfl, hk1, hk2, HSt.out, HB2.out⟩
  rename World => w6
  obtain ⟨j1, rfl, hj11, hj12, hj1, hbw6⟩ := hcut
  have HAw6 := Lib.hid (HAw5.out.on hbw6)
  have HMw6 := Lib.hid (HMw5.out.thenBelow hbw6)
  clear hbw6
  have HPart := Lib.hid (show Sort.partition below64 d a b pivot = if i1 > j1 then (j1, true, Sort.swp d1 j1 a) else ((Sort.partLoop below64 a (i1 + 1) (j1 - 1) (Sort.swp d1 i1 j1)).1, false, Sort.swp (Sort.partLoop below64 a (i1 + 1) (j1 - 1) (Sort.swp d1 i1 j1)).2 (Sort.partLoop below64 a (i1 + 1) (j1 - 1) (Sort.swp d1 i1 j1)).1 a) by
    unfold Sort.partition
    simp only [hd1, hi0, hj0, hi1, hj1])
  clear hi1 hj1 hd1
  by_cases hgt : i1 > j1
  · have hgti : (j1 : Int) < (i1 : Int) := by omega
    have hj1n : (j1 : Int) < (n : Int) := by omega
    have HP := Lib.hid (show Sort.partition below64 d a b pivot = (j1, true, Sort.swp d1 j1 a) by rw [HPart.out, if_pos hgt])
    go_upto_region 8 with fail
    have HG := Lib.hid (show ∀ w', Below w6.heap.size w6 w' → (w'.cell? ⟨g, j1, none⟩ = some (.int .u64 (d1[j1]! : Nat)) ∧ w'.cell? ⟨g, a, none⟩ = some (.int .u64 (d1[a]! : Nat))) from
      fun w' hb => ⟨(HAw6.out.on hb).get (by omega), (HAw6.out.on hb).get (by omega)⟩)
    obtain ⟨vI, hvI⟩ : ∃ x, d1[j1]! = x := ⟨_, rfl⟩
    obtain ⟨vJ, hvJ⟩ : ∃ x, d1[a]! = x := ⟨_, rfl⟩
    rw [hvI, hvJ] at HG
    refine wp_region_float2 [2, 3] [0, 1, 4, 5, 6, 7, 8, 9, 10, 11] [12, 13, 14, 15] [12, 13, 14, 15] (Below w6.heap.size w6) (by kernel_rfl) (by kernel_rfl) (by kernel_rfl) (by kernel_rfl) (fun c a d v w h => by cases d <;> exact h) (below_drew (Below.refl _ _)) ?_
    have hS : Below w6.heap.size w6 { w6 with drawn := w6.drawn + 1 } := below_drew (Below.refl _ _)
    generalize ({ w6 with drawn := w6.drawn + 1 } : World) = w3 at *
    simp only [pick, List.map_cons, List.map_nil, List.getD_cons_zero, List.getD_cons_succ]
    repeat (
      refine takes_val (v := ?_) ?_ (fun w' hS => ?_) ?_
      rotate_left
      · rfl
      · go_simp
        with_reducible rfl
      simp only [Act.put, List.setIfInBounds_toArray, List.set_cons_zero, List.set_cons_succ])
    refine takes_nil ?_
    repeat (
      refine takes_val (v := ?_) ?_ (fun w' hS => ?_) ?_
      rotate_left
      · rfl
      · obtain ⟨k0, k1⟩ := HG.out w' hS
        go_simp
        with_reducible rfl
      simp only [Act.put, List.setIfInBounds_toArray, List.set_cons_zero, List.set_cons_succ])
    refine takes_nil ?_
    obtain ⟨k0, k1⟩ := HG.out w3 hS
    have hA3 := HAw6.out.on hS
    have hM3 := HMw6.out.thenBelow hS
    have z0 := Blk.free hA3 j1
    have hAx := hA3.set (i := j1) (by omega) vJ
    have z2 := Blk.free hAx a
    have z3 := hAx.get (i := a) (by simp; omega)
    have hA4 : ArrAt ((w3.setCell ⟨g, j1, none⟩ (.int .u64 (vJ : Nat))).setCell ⟨g, a, none⟩ (.int .u64 (vI : Nat))) g (Sort.swp d1 j1 a) rest := by
      have := hA3.swap (i := j1) (j := a) (by omega) (by omega)
      rw [hvI, hvJ] at this
      exact this
    have hM4 : Mod [g] w ((w3.setCell ⟨g, j1, none⟩ (.int .u64 (vJ : Nat))).setCell ⟨g, a, none⟩ (.int .u64 (vI : Nat))) := (hM3.setCell _ _ (.inl (by simp))).setCell _ _ (.inl (by simp))
    clear hAx hA3 hM3
    generalize hz3 : ((d1.setIfInBounds j1 vJ)[a]! : Nat) = x3 at z3
    clear hz3 hvI hvJ
    refine seqW_step (by rfl) (fun K hK => ?_)
    go_simp
    refine hK.out _ _ (.inl (by rfl)) ?_
    clear hK K
    refine seqW_step (by rfl) (fun K hK => ?_)
    go_simp
    refine hK.out _ _ (.inl (by rfl)) ?_
    clear hK K
    refine seqW_step (by rfl) (fun K hK => ?_)
    go_simp
    refine hK.out _ _ (.inl (by rfl)) ?_
    clear hK K
    refine seqW_step (by rfl) (fun K hK => ?_)
    go_simp
    refine hK.out _ _ (.inl (by rfl)) (seqW_nil ?_)
    clear hK K HG hS k0 k1 z0 z2 z3
    generalize (w3.setCell ⟨g, j1, none⟩ (.int .u64 (vJ : Nat))).setCell ⟨g, a, none⟩ (.int .u64 (vI : Nat)) = w4 at *
    have HE := Lib.hid (show PartEnd g (Sort.partition below64 d a b pivot) rest w (.returned (.tuple #[.int .i64 (j1 : Nat), .bool true])) w4 from by rw [HP.out]; exact ⟨rfl, hA4, hM4⟩)
    clear hA4 hM4
    go_wp2_with fail
    refine bodyPost_ret (results_tmp2 rfl _ _ _) rfl ?_
    exact HE.out
  · have hgti : ¬ (j1 : Int) < (i1 : Int) := by omega
    have hi1n : (i1 : Int) < (n : Int) := by omega
    have hj1n : (j1 : Int) < (n : Int) := by omega
    have hj11 : 1 ≤ j1 := by omega
    go_upto_region 10 with fail
    have HG := Lib.hid (show ∀ w', Below w6.heap.size w6 w' → (w'.cell? ⟨g, i1, none⟩ = some (.int .u64 (d1[i1]! : Nat)) ∧ w'.cell? ⟨g, j1, none⟩ = some (.int .u64 (d1[j1]! : Nat))) from
      fun w' hb => ⟨(HAw6.out.on hb).get (by omega), (HAw6.out.on hb).get (by omega)⟩)
    obtain ⟨vI, hvI⟩ : ∃ x, d1[i1]! = x := ⟨_, rfl⟩
    obtain ⟨vJ, hvJ⟩ : ∃ x, d1[j1]! = x := ⟨_, rfl⟩
    rw [hvI, hvJ] at HG
    refine wp_region_float2 [2, 3] [0, 1, 4, 5, 6, 7, 8, 9, 10, 11] [12, 13, 14, 15] [12, 13, 14, 15] (Below w6.heap.size w6) (by kernel_rfl) (by kernel_rfl) (by kernel_rfl) (by kernel_rfl) (fun c a d v w h => by cases d <;> exact h) (below_drew (Below.refl _ _)) ?_
    have hS : Below w6.heap.size w6 { w6 with drawn := w6.drawn + 1 } := below_drew (Below.refl _ _)
    generalize ({ w6 with drawn := w6.drawn + 1 } : World) = w3 at *
    simp only [pick, List.map_cons, List.map_nil, List.getD_cons_zero, List.getD_cons_succ]
    repeat (
      refine takes_val (v := ?_) ?_ (fun w' hS => ?_) ?_
      rotate_left
      · rfl
      · go_simp
        with_reducible rfl
      simp only [Act.put, List.setIfInBounds_toArray, List.set_cons_zero, List.set_cons_succ])
    refine takes_nil ?_
    repeat (
      refine takes_val (v := ?_) ?_ (fun w' hS => ?_) ?_
      rotate_left
      · rfl
      · obtain ⟨k0, k1⟩ := HG.out w' hS
        go_simp
        with_reducible rfl
      simp only [Act.put, List.setIfInBounds_toArray, List.set_cons_zero, List.set_cons_succ])
    refine takes_nil ?_
    obtain ⟨k0, k1⟩ := HG.out w3 hS
    have hA3 := HAw6.out.on hS
    have hM3 := HMw6.out.thenBelow hS
    have z0 := Blk.free hA3 i1
    have hAx := hA3.set (i := i1) (by omega) vJ
    have z2 := Blk.free hAx j1
    have z3 := hAx.get (i := j1) (by simp; omega)
    have hA4 : ArrAt ((w3.setCell ⟨g, i1, none⟩ (.int .u64 (vJ : Nat))).setCell ⟨g, j1, none⟩ (.int .u64 (vI : Nat))) g (Sort.swp d1 i1 j1) rest := by
      have := hA3.swap (i := i1) (j := j1) (by omega) (by omega)
      rw [hvI, hvJ] at this
      exact this
    have hM4 : Mod [g] w ((w3.setCell ⟨g, i1, none⟩ (.int .u64 (vJ : Nat))).setCell ⟨g, j1, none⟩ (.int .u64 (vI : Nat))) := (hM3.setCell _ _ (.inl (by simp))).setCell _ _ (.inl (by simp))
    clear hAx hA3 hM3
    generalize hz3 : ((d1.setIfInBounds i1 vJ)[j1]! : Nat) = x3 at z3
    clear hz3 hvI hvJ
    refine seqW_step (by rfl) (fun K hK => ?_)
    go_simp
    refine hK.out _ _ (.inl (by rfl)) ?_
    clear hK K
    refine seqW_step (by rfl) (fun K hK => ?_)
    go_simp
    refine hK.out _ _ (.inl (by rfl)) ?_
    clear hK K
    refine seqW_step (by rfl) (fun K hK => ?_)
    go_simp
    refine hK.out _ _ (.inl (by rfl)) ?_
    clear hK K
    refine seqW_step (by rfl) (fun K hK => ?_)
    go_simp
    refine hK.out _ _ (.inl (by rfl)) (seqW_nil ?_)
    clear hK K HG hS k0 k1 z0 z2 z3
    generalize (w3.setCell ⟨g, i1, none⟩ (.int .u64 (vJ : Nat))).setCell ⟨g, j1, none⟩ (.int .u64 (vI : Nat)) = w4 at *
    rw [if_neg hgt] at HPart
    obtain ⟨d2, hd2⟩ : ∃ x, Sort.swp d1 i1 j1 = x := ⟨_, rfl⟩
    rw [hd2] at hA4 HPart
    have hz2 : d2.size = n := by rw [← hd2, Sort.size_swp, hz1]
    have HA2 := Lib.hid hA4
    have HM2 := Lib.hid hM4
    clear hA4 hM4 hd2
    have hi2i : (i1 : Int) + 1 = ((i1 + 1 : Nat) : Int) := by omega
    have hj2i : (j1 : Int) - 1 = ((j1 - 1 : Nat) : Int) := by omega
    obtain ⟨R, hR⟩ : ∃ R, Sort.partLoop below64 a (i1 + 1) (j1 - 1) d2 = R := ⟨_, rfl⟩
    rw [hR] at HPart
    have HSt := Lib.hid (show ∃ (i j : Nat) (dd : Array Nat), Value.int .i64 ((i1 : Int) + 1) = .int .i64 i ∧ Value.int .i64 ((j1 : Int) - 1) = .int .i64 j ∧ Sort.partLoop below64 a i j dd = R ∧ dd.size = n ∧ 1 ≤ i ∧ i ≤ n ∧ j < n ∧ ArrAt w4 g dd rest ∧ Mod [g] w w4 from ⟨i1 + 1, j1 - 1, d2, by rw [hi2i], by rw [hj2i], hR, hz2, by omega, by omega, by omega, HA2.out, HM2.out⟩)
    clear HA2 HM2 hz2 hR hi2i hj2i
    go_upto_block 4 with fail
    go_cut [10, 11] (fun s10 s11 wx => ∃ (j : Nat) (dd : Array Nat), s11 = .int .i64 j ∧ R = (j, dd) ∧ dd.size = n ∧ j < n ∧ ArrAt wx g dd rest ∧ Mod [g] w wx)
    case first =>
      go_wp2_with fail
      go_loopw [10, 11] (fun s10 s11 wr => ∃ (i j : Nat) (dd : Array Nat), s10 = .int .i64 i ∧ s11 = .int .i64 j ∧ Sort.partLoop below64 a i j dd = R ∧ dd.size = n ∧ 1 ≤ i ∧ i ≤ n ∧ j < n ∧ ArrAt wr g dd rest ∧ Mod [g] w wr) (fun s10 s11 _ => (intOf s11 + 1 - intOf s10).toNat)
      case atStart => exact HSt.out
      case round =>
        clear HSt
        obtain ⟨i, j, dd, rfl, rfl, hpl, hzz, hi1', hin, hjn, hA, hm⟩ := hrel
        have HAwr0 := Lib.hid hA
        have HMwr0 := Lib.hid hm
        have HPl := Lib.hid hpl
        clear hA hm hpl
        generalize wr = wr0 at *
        go_upto_block 6 with fail
        go_cut [10] (fun s wx => ∃ k : Nat, s = .int .i64 k ∧ i ≤ k ∧ (k ≤ j + 1 ∨ k = i) ∧ Sort.scanUp (fun x => below64 x dd[a]!) dd j i = k ∧ Below wr0.heap.size wr0 wx)
        case first =>
          go_wp2_with fail
          go_loopw [10] (fun s wr => ∃ k : Nat, s = .int .i64 k ∧ i ≤ k ∧ (k ≤ j + 1 ∨ k = i) ∧ Sort.scanUp (fun x => below64 x dd[a]!) dd j k = Sort.scanUp (fun x => below64 x dd[a]!) dd j i ∧ Below wr0.heap.size wr0 wr) (fun s _ => j + 1 - (intOf s).toNat)
          case atStart => exact ⟨i, rfl, by omega, by omega, rfl, Below.refl _ _⟩
          case round =>
            obtain ⟨k, rfl, hk1, hk2, hkeq, hbk⟩ := hrel
            have HAk := Lib.hid (HAwr0.out.on hbk)
            have HBk := Lib.hid hbk
            have HEq := Lib.hid hkeq
            clear hkeq hbk
            by_cases hgo : k ≤ j
            · have hgoi : (k : Int) ≤ (j : Int) := by omega
              have hkn : (k : Int) < (n : Int) := by omega
              obtain ⟨vk, hvk⟩ : ∃ x, dd[k]! = x := ⟨_, rfl⟩
              obtain ⟨va, hva⟩ : ∃ x, dd[a]! = x := ⟨_, rfl⟩
              have HF := Lib.hid (show ∀ w', Below wr.heap.size wr w' → (w'.cell? ⟨g, k, none⟩ = some (.int .u64 (vk : Nat)) ∧ w'.cell? ⟨g, a, none⟩ = some (.int .u64 (va : Nat))) from fun w' hb => ⟨by rw [← hvk]; exact (HAk.out.on hb).get (by omega), by rw [← hva]; exact (HAk.out.on hb).get (by omega)⟩)
              cases hlss : below64 vk va with
              | true =>
                have HL := Lib.hid hlss
                have HNx := Lib.hid (show Sort.scanUp (fun x => below64 x dd[a]!) dd j (k + 1) = Sort.scanUp (fun x => below64 x dd[a]!) dd j i by
                  rw [← HEq.out]
                  conv => rhs; unfold Sort.scanUp
                  rw [if_pos (by simp [hvk, hva, hlss, hgo])])
                clear hlss hvk hva
                go_upto_region 13 with fail
                refine wp_region_settleF (Below wr.heap.size wr) (by kernel_rfl) (by kernel_rfl) (by kernel_rfl) (below_drew (Below.refl _ _)) ?_
                repeat (first
                  | (refine settled_not ?_ ?_
                     · rfl
                     simp only [Act.put, List.setIfInBounds_toArray, List.set_cons_zero, List.set_cons_succ])
                  | (refine settled_val (v := ?_) ?_ (fun w' hS => ?_) ?_
                     rotate_left
                     · rfl
                     · obtain ⟨k0, k1⟩ := HF.out w' hS
                       go_simp
                       with_reducible rfl
                     simp only [Act.put, List.setIfInBounds_toArray, List.set_cons_zero, List.set_cons_succ])
                  | (refine settled_call (f := 84) (v := .bool true) ?_ (fun w' hS => ?_) (fun w' hS => ((less_any vk va w').mono fun e w'' ⟨h1, h2⟩ => ⟨by rw [h1, HL.out], h2 ▸ hS⟩)) ?_
                     · rfl
                     · go_simp
                     simp only [Act.put, List.setIfInBounds_toArray, List.set_cons_zero, List.set_cons_succ]))
                refine settled_nil (fun w2 hS => ?_)
                have HB2 := Lib.hid (HBk.out.trans (hS.mono HBk.out.size))
                clear hS HF
                go_wp2_with fail
                go_roundw
                case rel => exact ⟨k + 1, by go_num, by omega, by omega, HNx.out, HB2.out⟩
                case measure => simp [intOf]; omega
              | false =>
                have HL := Lib.hid hlss
                have HSt := Lib.hid (show Sort.scanUp (fun x => below64 x dd[a]!) dd j i = k by
                  rw [← HEq.out]
                  unfold Sort.scanUp
                  rw [if_neg (by simp [hvk, hva, hlss])])
                clear hlss hvk hva
                go_upto_region 13 with fail
                refine wp_region_settleF (Below wr.heap.size wr) (by kernel_rfl) (by kernel_rfl) (by kernel_rfl) (below_drew (Below.refl _ _)) ?_
                repeat (first
                  | (refine settled_not ?_ ?_
                     · rfl
                     simp only [Act.put, List.setIfInBounds_toArray, List.set_cons_zero, List.set_cons_succ])
                  | (refine settled_val (v := ?_) ?_ (fun w' hS => ?_) ?_
                     rotate_left
                     · rfl
                     · obtain ⟨k0, k1⟩ := HF.out w' hS
                       go_simp
                       with_reducible rfl
                     simp only [Act.put, List.setIfInBounds_toArray, List.set_cons_zero, List.set_cons_succ])
                  | (refine settled_call (f := 84) (v := .bool false) ?_ (fun w' hS => ?_) (fun w' hS => ((less_any vk va w').mono fun e w'' ⟨h1, h2⟩ => ⟨by rw [h1, HL.out], h2 ▸ hS⟩)) ?_
                     · rfl
                     · go_simp
                     simp only [Act.put, List.setIfInBounds_toArray, List.set_cons_zero, List.set_cons_succ]))
                refine settled_nil (fun w2 hS => ?_)
                have HB2 := Lib.hid (HBk.out.trans (hS.mono HBk.out.size))
                clear hS HF
                go_wp2_with fail
                go_meet
                exact ⟨k, rfl, hk1, hk2, HSt.out, HB2.out⟩
            · have hgoi : ¬ (k : Int) ≤ (j : Int) := by omega
              have HSt := Lib.hid (show Sort.scanUp (fun x => below64 x dd[a]!) dd j i = k by
                rw [← HEq.out]
                unfold Sort.scanUp
                rw [if_neg (by simp [hgo])])
              go_upto_region 13 with fail
              refine wp_region_settleF (Below wr.heap.size wr) (by kernel_rfl) (by kernel_rfl) (by kernel_rfl) (below_drew (Below.refl _ _)) ?_
              repeat (first
                | (refine settled_not ?_ ?_
                   · rfl
                   simp only [Act.put, List.setIfInBounds_toArray, List.set_cons_zero, List.set_cons_succ])
                | (refine settled_val (v := ?_) ?_ (fun w' hS => ?_) ?_
                   rotate_left
                   · rfl
                   · skip
                     go_simp
                     with_reducible rfl
                   simp only [Act.put, List.setIfInBounds_toArray, List.set_cons_zero, List.set_cons_succ]))
              refine settled_nil (fun w2 hS => ?_)
              have HB2 := Lib.hid (HBk.out.trans (hS.mono HBk.out.size))
              clear hS
              go_wp2_with fail
              go_meet
              exact ⟨k, rfl, hk1, hk2, HSt.out, HB2.out⟩
        rename World => wa
        obtain ⟨i2, rfl, hi21, hi22, hi2, hbwa⟩ := hcut
        have HAwa := Lib.hid (HAwr0.out.on hbwa)
        have HMwa := Lib.hid (HMwr0.out.thenBelow hbwa)
        clear hbwa
        go_upto_block 8 with fail
        go_cut [11] (fun s wx => ∃ k : Nat, s = .int .i64 k ∧ k ≤ j ∧ (i2 ≤ k + 1 ∨ k = j) ∧ Sort.scanDown (fun x => !below64 x dd[a]!) dd i2 j = k ∧ Below wa.heap.size wa wx)
        case first =>
          go_wp2_with fail
          go_loopw [11] (fun s wr => ∃ k : Nat, s = .int .i64 k ∧ k ≤ j ∧ (i2 ≤ k + 1 ∨ k = j) ∧ Sort.scanDown (fun x => !below64 x dd[a]!) dd i2 k = Sort.scanDown (fun x => !below64 x dd[a]!) dd i2 j ∧ Below wa.heap.size wa wr) (fun s _ => (intOf s).toNat)
          case atStart => exact ⟨j, rfl, by omega, by omega, rfl, Below.refl _ _⟩
          case round =>
            obtain ⟨k, rfl, hk1, hk2, hkeq, hbk⟩ := hrel
            have HAk := Lib.hid (HAwa.out.on hbk)
            have HBk := Lib.hid hbk
            have HEq := Lib.hid hkeq
            clear hkeq hbk
            by_cases hgo : i2 ≤ k
            · have hgoi : (i2 : Int) ≤ (k : Int) := by omega
              have hkn : (k : Int) < (n : Int) := by omega
              obtain ⟨vk, hvk⟩ : ∃ x, dd[k]! = x := ⟨_, rfl⟩
              obtain ⟨va, hva⟩ : ∃ x, dd[a]! = x := ⟨_, rfl⟩
              have HF := Lib.hid (show ∀ w', Below wr.heap.size wr w' → (w'.cell? ⟨g, k, none⟩ = some (.int .u64 (vk : Nat)) ∧ w'.cell? ⟨g, a, none⟩ = some (.int .u64 (va : Nat))) from fun w' hb => ⟨by rw [← hvk]; exact (HAk.out.on hb).get (by omega), by rw [← hva]; exact (HAk.out.on hb).get (by omega)⟩)
              cases hlss : below64 vk va with
              | false =>
                have HL := Lib.hid hlss
                have HNx := Lib.hid (show Sort.scanDown (fun x => !below64 x dd[a]!) dd i2 (k - 1) = Sort.scanDown (fun x => !below64 x dd[a]!) dd i2 j by
                  rw [← HEq.out]
                  obtain ⟨m, rfl⟩ : ∃ m, k = m + 1 := ⟨k - 1, by omega⟩
                  conv => rhs; unfold Sort.scanDown
                  rw [Nat.add_sub_cancel]
                  rw [if_pos (by simp [hvk, hva, hlss, hgo])])
                clear hlss hvk hva
                go_upto_region 15 with fail
                refine wp_region_settleF (Below wr.heap.size wr) (by kernel_rfl) (by kernel_rfl) (by kernel_rfl) (below_drew (Below.refl _ _)) ?_
                repeat (first
                  | (refine settled_not ?_ ?_
                     · rfl
                     simp only [Act.put, List.setIfInBounds_toArray, List.set_cons_zero, List.set_cons_succ])
                  | (refine settled_val (v := ?_) ?_ (fun w' hS => ?_) ?_
                     rotate_left
                     · rfl
                     · obtain ⟨k0, k1⟩ := HF.out w' hS
                       go_simp
                       with_reducible rfl
                     simp only [Act.put, List.setIfInBounds_toArray, List.set_cons_zero, List.set_cons_succ])
                  | (refine settled_call (f := 84) (v := .bool false) ?_ (fun w' hS => ?_) (fun w' hS => ((less_any vk va w').mono fun e w'' ⟨h1, h2⟩ => ⟨by rw [h1, HL.out], h2 ▸ hS⟩)) ?_
                     · rfl
                     · go_simp
                     simp only [Act.put, List.setIfInBounds_toArray, List.set_cons_zero, List.set_cons_succ]))
                refine settled_nil (fun w2 hS => ?_)
                have HB2 := Lib.hid (HBk.out.trans (hS.mono HBk.out.size))
                clear hS HF
                go_wp2_with fail
                go_roundw
                case rel => exact ⟨k - 1, by rw [show ((k - 1 : Nat) : Int) = (k : Int) - 1 by omega], by omega, by omega, HNx.out, HB2.out⟩
                case measure => simp [intOf]; omega
              | true =>
                have HL := Lib.hid hlss
                have HSt := Lib.hid (show Sort.scanDown (fun x => !below64 x dd[a]!) dd i2 j = k by
                  rw [← HEq.out]
                  obtain ⟨m, rfl⟩ : ∃ m, k = m + 1 := ⟨k - 1, by omega⟩
                  unfold Sort.scanDown
                  rw [if_neg (by simp [hvk, hva, hlss])])
                clear hlss hvk hva
                go_upto_region 15 with fail
                refine wp_region_settleF (Below wr.heap.size wr) (by kernel_rfl) (by kernel_rfl) (by kernel_rfl) (below_drew (Below.refl _ _)) ?_
                repeat (first
                  | (refine settled_not ?_ ?_
                     · rfl
                     simp only [Act.put, List.setIfInBounds_toArray, List.set_cons_zero, List.set_cons_succ])
                  | (refine settled_val (v := ?_) ?_ (fun w' hS => ?_) ?_
                     rotate_left
                     · rfl
                     · obtain ⟨k0, k1⟩ := HF.out w' hS
                       go_simp
                       with_reducible rfl
                     simp only [Act.put, List.setIfInBounds_toArray, List.set_cons_zero, List.set_cons_succ])
                  | (refine settled_call (f := 84) (v := .bool true) ?_ (fun w' hS => ?_) (fun w' hS => ((less_any vk va w').mono fun e w'' ⟨h1, h2⟩ => ⟨by rw [h1, HL.out], h2 ▸ hS⟩)) ?_
                     · rfl
                     · go_simp
                     simp only [Act.put, List.setIfInBounds_toArray, List.set_cons_zero, List.set_cons_succ]))
                refine settled_nil (fun w2 hS => ?_)
                have HB2 := Lib.hid (HBk.out.trans (hS.mono HBk.out.size))
                clear hS HF
                go_wp2_with fail
                go_meet
                exact ⟨k, rfl, hk1, hk2, HSt.out, HB2.out⟩
            · have hgoi : ¬ (i2 : Int) ≤ (k : Int) := by omega
              have HSt := Lib.hid (show Sort.scanDown (fun x => !below64 x dd[a]!) dd i2 j = k by
                rw [← HEq.out]
                cases k with
                | zero => rfl
                | succ m =>
                  unfold Sort.scanDown
                  rw [if_neg (by simp [hgo])])
              go_upto_region 15 with fail
              refine wp_region_settleF (Below wr.heap.size wr) (by kernel_rfl) (by kernel_rfl) (by kernel_rfl) (below_drew (Below.refl _ _)) ?_
              repeat (first
                | (refine settled_not ?_ ?_
                   · rfl
                   simp only [Act.put, List.setIfInBounds_toArray, List.set_cons_zero, List.set_cons_succ])
                | (refine settled_val (v := ?_) ?_ (fun w' hS => ?_) ?_
                   rotate_left
                   · rfl
                   · skip
                     go_simp
                     with_reducible rfl
                   simp only [Act.put, List.setIfInBounds_toArray, List.set_cons_zero, List.set_cons_succ]))
              refine settled_nil (fun w2 hS => ?_)
              have HB2 := Lib.hid (HBk.out.trans (hS.mono HBk.out.size))
              clear hS
              go_wp2_with fail
              go_meet
              exact ⟨k, rfl, hk1, hk2, HSt.out, HB2.out⟩
        rename World => wb
        obtain ⟨j2, rfl, hj21, hj22, hj2, hbwb⟩ := hcut
        have HAwb := Lib.hid (HAwa.out.on hbwb)
        have HMwb := Lib.hid (HMwa.out.thenBelow hbwb)
        clear hbwb
        have HEq := Lib.hid (Sort.partLoop_eq (lt := below64) a i j dd)
        simp only [hi2, hj2] at HEq
        clear hi2 hj2
        by_cases hgt2 : i2 > j2
        · have hgti2 : (j2 : Int) < (i2 : Int) := by omega
          have HD := Lib.hid (show R = (j2, dd) by rw [← HPl.out, HEq.out, if_pos hgt2])
          go_wp2_with fail
          go_meet
          exact ⟨j2, dd, rfl, HD.out, hzz, by omega, HAwb.out, HMwb.out⟩
        · have hgti2 : ¬ (j2 : Int) < (i2 : Int) := by omega
          have hi2n : (i2 : Int) < (n : Int) := by omega
          have hj2n : (j2 : Int) < (n : Int) := by omega
          have HD := Lib.hid (show Sort.partLoop below64 a (i2 + 1) (j2 - 1) (Sort.swp dd i2 j2) = R by rw [← HPl.out, HEq.out, if_neg hgt2])
          go_upto_region 18 with fail
          have HG := Lib.hid (show ∀ w', Below wb.heap.size wb w' → (w'.cell? ⟨g, i2, none⟩ = some (.int .u64 (dd[i2]! : Nat)) ∧ w'.cell? ⟨g, j2, none⟩ = some (.int .u64 (dd[j2]! : Nat))) from
            fun w' hb => ⟨(HAwb.out.on hb).get (by omega), (HAwb.out.on hb).get (by omega)⟩)
          obtain ⟨vI, hvI⟩ : ∃ x, dd[i2]! = x := ⟨_, rfl⟩
          obtain ⟨vJ, hvJ⟩ : ∃ x, dd[j2]! = x := ⟨_, rfl⟩
          rw [hvI, hvJ] at HG
          refine wp_region_float2 [2, 3] [0, 1, 4, 5, 6, 7, 8, 9, 10, 11] [12, 13, 14, 15] [12, 13, 14, 15] (Below wb.heap.size wb) (by kernel_rfl) (by kernel_rfl) (by kernel_rfl) (by kernel_rfl) (fun c a d v w h => by cases d <;> exact h) (below_drew (Below.refl _ _)) ?_
          have hS : Below wb.heap.size wb { wb with drawn := wb.drawn + 1 } := below_drew (Below.refl _ _)
          generalize ({ wb with drawn := wb.drawn + 1 } : World) = w3 at *
          simp only [pick, List.map_cons, List.map_nil, List.getD_cons_zero, List.getD_cons_succ]
          repeat (
            refine takes_val (v := ?_) ?_ (fun w' hS => ?_) ?_
            rotate_left
            · rfl
            · go_simp
              with_reducible rfl
            simp only [Act.put, List.setIfInBounds_toArray, List.set_cons_zero, List.set_cons_succ])
          refine takes_nil ?_
          repeat (
            refine takes_val (v := ?_) ?_ (fun w' hS => ?_) ?_
            rotate_left
            · rfl
            · obtain ⟨k0, k1⟩ := HG.out w' hS
              go_simp
              with_reducible rfl
            simp only [Act.put, List.setIfInBounds_toArray, List.set_cons_zero, List.set_cons_succ])
          refine takes_nil ?_
          obtain ⟨k0, k1⟩ := HG.out w3 hS
          have hA3 := HAwb.out.on hS
          have hM3 := HMwb.out.thenBelow hS
          have z0 := Blk.free hA3 i2
          have hAx := hA3.set (i := i2) (by omega) vJ
          have z2 := Blk.free hAx j2
          have z3 := hAx.get (i := j2) (by simp; omega)
          have hA4 : ArrAt ((w3.setCell ⟨g, i2, none⟩ (.int .u64 (vJ : Nat))).setCell ⟨g, j2, none⟩ (.int .u64 (vI : Nat))) g (Sort.swp dd i2 j2) rest := by
            have := hA3.swap (i := i2) (j := j2) (by omega) (by omega)
            rw [hvI, hvJ] at this
            exact this
          have hM4 : Mod [g] w ((w3.setCell ⟨g, i2, none⟩ (.int .u64 (vJ : Nat))).setCell ⟨g, j2, none⟩ (.int .u64 (vI : Nat))) := (hM3.setCell _ _ (.inl (by simp))).setCell _ _ (.inl (by simp))
          clear hAx hA3 hM3
          generalize hz3 : ((dd.setIfInBounds i2 vJ)[j2]! : Nat) = x3 at z3
          clear hz3 hvI hvJ
          refine seqW_step (by rfl) (fun K hK => ?_)
          go_simp
          refine hK.out _ _ (.inl (by rfl)) ?_
          clear hK K
          refine seqW_step (by rfl) (fun K hK => ?_)
          go_simp
          refine hK.out _ _ (.inl (by rfl)) ?_
          clear hK K
          refine seqW_step (by rfl) (fun K hK => ?_)
          go_simp
          refine hK.out _ _ (.inl (by rfl)) ?_
          clear hK K
          refine seqW_step (by rfl) (fun K hK => ?_)
          go_simp
          refine hK.out _ _ (.inl (by rfl)) (seqW_nil ?_)
          clear hK K HG hS k0 k1 z0 z2 z3
          generalize (w3.setCell ⟨g, i2, none⟩ (.int .u64 (vJ : Nat))).setCell ⟨g, j2, none⟩ (.int .u64 (vI : Nat)) = w4 at *
          go_wp2_with fail
          go_roundw
          case rel => exact ⟨i2 + 1, j2 - 1, Sort.swp dd i2 j2, by go_num, by rw [show ((j2 - 1 : Nat) : Int) = (j2 : Int) - 1 by omega], HD.out, by rw [Sort.size_swp]; exact hzz, by omega, by omega, by omega, hA4, hM4⟩
          case measure => simp [intOf]; omega
    rename World => wc
    obtain ⟨j, dd, rfl, hRj, hzz, hjn, hA, hm⟩ := hcut
    have HAc := Lib.hid hA
    have HMc := Lib.hid hm
    clear hA hm HSt
    have hjn' : (j : Int) < (n : Int) := by omega
    have HP := Lib.hid (show Sort.partition below64 d a b pivot = (j, false, Sort.swp dd j a) by rw [HPart.out, hRj])
    go_upto_region 21 with fail
    have HG := Lib.hid (show ∀ w', Below wc.heap.size wc w' → (w'.cell? ⟨g, j, none⟩ = some (.int .u64 (dd[j]! : Nat)) ∧ w'.cell? ⟨g, a, none⟩ = some (.int .u64 (dd[a]! : Nat))) from
      fun w' hb => ⟨(HAc.out.on hb).get (by omega), (HAc.out.on hb).get (by omega)⟩)
    obtain ⟨vI, hvI⟩ : ∃ x, dd[j]! = x := ⟨_, rfl⟩
    obtain ⟨vJ, hvJ⟩ : ∃ x, dd[a]! = x := ⟨_, rfl⟩
    rw [hvI, hvJ] at HG
    refine wp_region_float2 [2, 3] [0, 1, 4, 5, 6, 7, 8, 9, 10, 11] [12, 13, 14, 15] [12, 13, 14, 15] (Below wc.heap.size wc) (by kernel_rfl) (by kernel_rfl) (by kernel_rfl) (by kernel_rfl) (fun c a d v w h => by cases d <;> exact h) (below_drew (Below.refl _ _)) ?_
    have hS : Below wc.heap.size wc { wc with drawn := wc.drawn + 1 } := below_drew (Below.refl _ _)
    generalize ({ wc with drawn := wc.drawn + 1 } : World) = w3 at *
    simp only [pick, List.map_cons, List.map_nil, List.getD_cons_zero, List.getD_cons_succ]
    repeat (
      refine takes_val (v := ?_) ?_ (fun w' hS => ?_) ?_
      rotate_left
      · rfl
      · go_simp
        with_reducible rfl
      simp only [Act.put, List.setIfInBounds_toArray, List.set_cons_zero, List.set_cons_succ])
    refine takes_nil ?_
    repeat (
      refine takes_val (v := ?_) ?_ (fun w' hS => ?_) ?_
      rotate_left
      · rfl
      · obtain ⟨k0, k1⟩ := HG.out w' hS
        go_simp
        with_reducible rfl
      simp only [Act.put, List.setIfInBounds_toArray, List.set_cons_zero, List.set_cons_succ])
    refine takes_nil ?_
    obtain ⟨k0, k1⟩ := HG.out w3 hS
    have hA3 := HAc.out.on hS
    have hM3 := HMc.out.thenBelow hS
    have z0 := Blk.free hA3 j
    have hAx := hA3.set (i := j) (by omega) vJ
    have z2 := Blk.free hAx a
    have z3 := hAx.get (i := a) (by simp; omega)
    have hA4 : ArrAt ((w3.setCell ⟨g, j, none⟩ (.int .u64 (vJ : Nat))).setCell ⟨g, a, none⟩ (.int .u64 (vI : Nat))) g (Sort.swp dd j a) rest := by
      have := hA3.swap (i := j) (j := a) (by omega) (by omega)
      rw [hvI, hvJ] at this
      exact this
    have hM4 : Mod [g] w ((w3.setCell ⟨g, j, none⟩ (.int .u64 (vJ : Nat))).setCell ⟨g, a, none⟩ (.int .u64 (vI : Nat))) := (hM3.setCell _ _ (.inl (by simp))).setCell _ _ (.inl (by simp))
    clear hAx hA3 hM3
    generalize hz3 : ((dd.setIfInBounds j vJ)[a]! : Nat) = x3 at z3
    clear hz3 hvI hvJ
    refine seqW_step (by rfl) (fun K hK => ?_)
    go_simp
    refine hK.out _ _ (.inl (by rfl)) ?_
    clear hK K
    refine seqW_step (by rfl) (fun K hK => ?_)
    go_simp
    refine hK.out _ _ (.inl (by rfl)) ?_
    clear hK K
    refine seqW_step (by rfl) (fun K hK => ?_)
    go_simp
    refine hK.out _ _ (.inl (by rfl)) ?_
    clear hK K
    refine seqW_step (by rfl) (fun K hK => ?_)
    go_simp
    refine hK.out _ _ (.inl (by rfl)) (seqW_nil ?_)
    clear hK K HG hS k0 k1 z0 z2 z3
    generalize (w3.setCell ⟨g, j, none⟩ (.int .u64 (vJ : Nat))).setCell ⟨g, a, none⟩ (.int .u64 (vI : Nat)) = w4 at *
    have HE := Lib.hid (show PartEnd g (Sort.partition below64 d a b pivot) rest w (.returned (.tuple #[.int .i64 (j : Nat), .bool false])) w4 from by rw [HP.out]; exact ⟨rfl, hA4, hM4⟩)
    clear hA4 hM4
    go_wp2_with fail
    refine bodyPost_ret (results_tmp2 rfl _ _ _) rfl ?_
    exact HE.out
end Go.Proofs.Ytffianjbljgnaaa
