/-
  partialInsertionSortOrdered at numbers without a sign: as the plain one. Condition: the row's length is one that a machine has. (Printed by gen_pdqi.py.)
-/
import Derived.Test.YtffianjbljgnaaaPdqA
import Derived.Test.YtffianjbljgnaaaSettleF
import Derived.Deep.DeepCutAuto
import Derived.Deep.CutBlock
namespace Go.Proofs.Ytffianjbljgnaaa
set_option linter.unusedVariables false
set_option linter.unusedSimpArgs false
open Go.RowKit
def PIEnd (g : Nat) (r : Array Nat × Bool) (rest : List Value) (w : World) (e : Ending) (w' : World) : Prop := e = .returned (.bool r.2) ∧ ArrAt w' g r.1 rest ∧ Mod [g] w w'
set_option maxRecDepth 100000 in
set_option maxHeartbeats 16000000 in
theorem partialIns_any (g : Nat) (d : Array Nat) (rest : List Value) (cap a b : Nat) (hab : a < b) (hb : b ≤ d.size) (hcap : d.size ≤ cap) (hsz : d.size ≤ 1000000) (w : World) (h : ArrAt w g d rest) :
    Calls Try.prog 83 #[.slice (some ⟨g, 0, none⟩) d.size cap, .int .i64 a, .int .i64 b] w (PIEnd g (Sort.partialInsertionSort below64 d a b) rest w) := by
  obtain ⟨n, hn⟩ : ∃ n, d.size = n := ⟨_, rfl⟩
  rw [hn]
  have HA := Lib.hid h
  clear h
  obtain ⟨R, hR⟩ : ∃ R, Sort.partialInsertionSort below64 d a b = R := ⟨_, rfl⟩
  have HR := Lib.hid (show Sort.partialIns below64 a b 5 (a + 1) d = R from hR)
  rw [hR]
  clear hR
  go_enter Try.func83, Try.ntmps83
  go_wp2_with fail
  go_loopw [7, 8] (fun s7 s8 wr => ∃ (s i : Nat) (dd : Array Nat), s ≤ 5 ∧ s7 = .int .i64 i ∧ s8 = .int .i64 (5 - (s : Int)) ∧ a + 1 ≤ i ∧ i ≤ b ∧ dd.size = n ∧ Sort.partialIns below64 a b s i dd = R ∧ ArrAt wr g dd rest ∧ Mod [g] w wr) (fun _ s8 _ => (5 - intOf s8).toNat)
  case atStart => exact ⟨5, a + 1, d, by omega, by go_num, rfl, by omega, by omega, hn, HR.out, HA.out, Mod.refl _ _⟩
  case round =>
    clear HR HA
    obtain ⟨s, i, dd, hs5, rfl, rfl, hi1, hib, hz, hpi, hA, hm⟩ := hrel
    have HAwr := Lib.hid hA
    have HMwr := Lib.hid hm
    have HPi := Lib.hid hpi
    clear hA hm hpi
    generalize wr = wq at *
    cases s with
    | zero =>
      have hs : (5 : Int) - ((0 : Nat) : Int) = 5 := by omega
      rw [hs]
      have HE := Lib.hid (show PIEnd g R rest w (.returned (.bool false)) wq from by
        have := HPi.out
        unfold Sort.partialIns at this
        rw [← this]
        exact ⟨rfl, HAwr.out, HMwr.out⟩)
      go_wp2_with fail
      go_ret
      exact HE.out
    | succ s =>
      obtain ⟨z, hzz⟩ : ∃ z : Int, 5 - ((s + 1 : Nat) : Int) = z := ⟨_, rfl⟩
      rw [hzz]
      have hz5 : z < 5 := by omega
      have hz0 : 0 ≤ z := by omega
      go_upto_block 2 with fail
      go_cut [7] (fun s7 wx => ∃ k : Nat, s7 = .int .i64 k ∧ i ≤ k ∧ k ≤ b ∧ Sort.scanSorted below64 dd b i = k ∧ Below wq.heap.size wq wx)
      case first =>
        go_wp2_with fail
        go_loopw [7] (fun s7 wr => ∃ k : Nat, s7 = .int .i64 k ∧ i ≤ k ∧ k ≤ b ∧ Sort.scanSorted below64 dd b k = Sort.scanSorted below64 dd b i ∧ Below wq.heap.size wq wr) (fun s7 _ => b - (intOf s7).toNat)
        case atStart => exact ⟨i, rfl, by omega, hib, rfl, Below.refl _ _⟩
        case round =>
          obtain ⟨k, rfl, hk1, hk2, hkeq, hbk⟩ := hrel
          have HAk := Lib.hid (HAwr.out.on hbk)
          have HBk := Lib.hid hbk
          have HEq := Lib.hid hkeq
          clear hkeq hbk
          by_cases hgo : k < b
          · have hgoi : (k : Int) < (b : Int) := by omega
            have hkn : (k : Int) < (n : Int) := by omega
            obtain ⟨km, hkm⟩ : ∃ x, k - 1 = x := ⟨_, rfl⟩
            have hkmi : IntKind.i64.wrap ((k : Int) - 1) = (km : Int) := by rw [show (k : Int) - 1 = (km : Int) by omega]; exact IntWalk.i64_in _ (by omega)
            have hkmn : (km : Int) < (n : Int) := by omega
            obtain ⟨vk, hvk⟩ : ∃ x, dd[k]! = x := ⟨_, rfl⟩
            obtain ⟨vm, hvm⟩ : ∃ x, dd[km]! = x := ⟨_, rfl⟩
            have HF := Lib.hid (show ∀ w', Below wr.heap.size wr w' → (w'.cell? ⟨g, k, none⟩ = some (.int .u64 (vk : Nat)) ∧ w'.cell? ⟨g, km, none⟩ = some (.int .u64 (vm : Nat))) from fun w' hb => ⟨by rw [← hvk]; exact (HAk.out.on hb).get (by omega), by rw [← hvm]; exact (HAk.out.on hb).get (by omega)⟩)
            cases hlss : below64 vk vm with
            | false =>
              have HL := Lib.hid hlss
              have HNx := Lib.hid (show Sort.scanSorted below64 dd b (k + 1) = Sort.scanSorted below64 dd b i by
                rw [← HEq.out]
                conv => rhs; unfold Sort.scanSorted
                rw [hkm, if_pos (by simp [hvk, hvm, hlss, hgo])])
              clear hlss hvk hvm
              go_upto_region 5 with fail
              refine wp_region_settleF (Below wr.heap.size wr) (by kernel_rfl) (by kernel_rfl) (by kernel_rfl) (below_drew (Below.refl _ _)) ?_
              repeat (first
                | (refine settled_not ?_ ?_
                   · rfl
                   simp only [Act.put, List.setIfInBounds_toArray, List.set_cons_zero, List.set_cons_succ])
                | (refine settled_val (v := ?_) ?_ (fun w' hS => ?_) ?_
                   rotate_left
                   · rfl
                   · obtain ⟨k0, k1⟩ := HF.out w' hS
                     go_simp
                     with_reducible rfl
                   simp only [Act.put, List.setIfInBounds_toArray, List.set_cons_zero, List.set_cons_succ])
                | (refine settled_call (f := 84) (v := .bool false) ?_ (fun w' hS => ?_) (fun w' hS => ((less_any vk vm w').mono fun e w'' ⟨h1, h2⟩ => ⟨by rw [h1, HL.out], h2 ▸ hS⟩)) ?_
                   · rfl
                   · go_simp
                   simp only [Act.put, List.setIfInBounds_toArray, List.set_cons_zero, List.set_cons_succ]))
              refine settled_nil (fun w2 hS => ?_)
              have HB2 := Lib.hid (HBk.out.trans (hS.mono HBk.out.size))
              clear hS HF
              go_wp2_with fail
              go_roundw
              case rel => exact ⟨k + 1, by go_num, by omega, by omega, HNx.out, HB2.out⟩
              case measure => simp [intOf]; omega
            | true =>
              have HL := Lib.hid hlss
              have HSt := Lib.hid (show Sort.scanSorted below64 dd b i = k by
                rw [← HEq.out]
                unfold Sort.scanSorted
                rw [hkm, if_neg (by simp [hvk, hvm, hlss])])
              clear hlss hvk hvm
              go_upto_region 5 with fail
              refine wp_region_settleF (Below wr.heap.size wr) (by kernel_rfl) (by kernel_rfl) (by kernel_rfl) (below_drew (Below.refl _ _)) ?_
              repeat (first
                | (refine settled_not ?_ ?_
                   · rfl
                   simp only [Act.put, List.setIfInBounds_toArray, List.set_cons_zero, List.set_cons_succ])
                | (refine settled_val (v := ?_) ?_ (fun w' hS => ?_) ?_
                   rotate_left
                   · rfl
                   · obtain ⟨k0, k1⟩ := HF.out w' hS
                     go_simp
                     with_reducible rfl
                   simp only [Act.put, List.setIfInBounds_toArray, List.set_cons_zero, List.set_cons_succ])
                | (refine settled_call (f := 84) (v := .bool true) ?_ (fun w' hS => ?_) (fun w' hS => ((less_any vk vm w').mono fun e w'' ⟨h1, h2⟩ => ⟨by rw [h1, HL.out], h2 ▸ hS⟩)) ?_
                   · rfl
                   · go_simp
                   simp only [Act.put, List.setIfInBounds_toArray, List.set_cons_zero, List.set_cons_succ]))
              refine settled_nil (fun w2 hS => ?_)
              have HB2 := Lib.hid (HBk.out.trans (hS.mono HBk.out.size))
              clear hS HF
              go_wp2_with fail
              go_meet
              exact ⟨k, rfl, hk1, hk2, HSt.out, HB2.out⟩
          · have hgoi : ¬ (k : Int) < (b : Int) := by omega
            have HSt := Lib.hid (show Sort.scanSorted below64 dd b i = k by
              rw [← HEq.out]
              unfold Sort.scanSorted
              rw [if_neg (by simp [hgo])])
            go_upto_region 5 with fail
            refine wp_region_settleF (Below wr.heap.size wr) (by kernel_rfl) (by kernel_rfl) (by kernel_rfl) (below_drew (Below.refl _ _)) ?_
            repeat (first
              | (refine settled_not ?_ ?_
                 · rfl
                 simp only [Act.put, List.setIfInBounds_toArray, List.set_cons_zero, List.set_cons_succ])
              | (refine settled_val (v := ?_) ?_ (fun w' hS => ?_) ?_
                 rotate_left
                 · rfl
                 · skip
                   go_simp
                   with_reducible rfl
                 simp only [Act.put, List.setIfInBounds_toArray, List.set_cons_zero, List.set_cons_succ]))
            refine settled_nil (fun w2 hS => ?_)
            have HB2 := Lib.hid (HBk.out.trans (hS.mono HBk.out.size))
            clear hS
            go_wp2_with fail
            go_meet
            exact ⟨k, rfl, hk1, hk2, HSt.out, HB2.out⟩
      rename World => wa
      obtain ⟨k, rfl, hk1, hk2, hsc, hba⟩ := hcut
      have HA1 := Lib.hid (HAwr.out.on hba)
      have HM1 := Lib.hid (HMwr.out.thenBelow hba)
      have HPi2 := Lib.hid (show (if k = b then (dd, true) else if b - a < 50 then (dd, false) else Sort.partialIns below64 a b s k (if b - k ≥ 2 then Sort.shiftUp below64 b (k + 1) (if k - a ≥ 2 then Sort.shiftDown below64 (k - 1) (Sort.swp dd k (k - 1)) else Sort.swp dd k (k - 1)) else (if k - a ≥ 2 then Sort.shiftDown below64 (k - 1) (Sort.swp dd k (k - 1)) else Sort.swp dd k (k - 1)))) = R by
        rw [← HPi.out]
        conv => rhs; unfold Sort.partialIns
        simp only [hsc])
      clear hba hsc HAwr HMwr HPi
      by_cases hkb : k = b
      · have hkbi : (k : Int) = (b : Int) := by omega
        have HE := Lib.hid (show PIEnd g R rest w (.returned (.bool true)) wa from by
          rw [← HPi2.out, if_pos hkb]
          exact ⟨rfl, HA1.out, HM1.out⟩)
        clear HPi2
        go_wp2_with fail
        go_ret
        exact HE.out
      · have hkbi : ¬ (k : Int) = (b : Int) := by omega
        by_cases h50 : b - a < 50
        · have h50i : (b : Int) - (a : Int) < 50 := by omega
          have HE := Lib.hid (show PIEnd g R rest w (.returned (.bool false)) wa from by
            rw [← HPi2.out, if_neg hkb, if_pos h50]
            exact ⟨rfl, HA1.out, HM1.out⟩)
          clear HPi2
          obtain ⟨ln, hln⟩ : ∃ ln : Int, (b : Int) - (a : Int) = ln := ⟨_, rfl⟩
          rw [hln] at h50i
          have hln2 : -1000000 ≤ ln ∧ ln ≤ 1000000 := by omega
          go_wp2_with fail
          go_ret
          exact HE.out
        · obtain ⟨ln, hln⟩ : ∃ ln : Int, (b : Int) - (a : Int) = ln := ⟨_, rfl⟩
          have h50i : ¬ ln < 50 := by omega
          have hln2 : -1000000 ≤ ln ∧ ln ≤ 1000000 := by omega
          obtain ⟨km, hkm⟩ : ∃ x, k - 1 = x := ⟨_, rfl⟩
          have hkmi : IntKind.i64.wrap ((k : Int) - 1) = (km : Int) := by rw [show (k : Int) - 1 = (km : Int) by omega]; exact IntWalk.i64_in _ (by omega)
          have hkn : (k : Int) < (n : Int) := by omega
          have hkmn : (km : Int) < (n : Int) := by omega
          rw [hkm] at HPi2
          go_upto_region 11 with fail
          have HG := Lib.hid (show ∀ w', Below wa.heap.size wa w' → (w'.cell? ⟨g, k, none⟩ = some (.int .u64 (dd[k]! : Nat)) ∧ w'.cell? ⟨g, km, none⟩ = some (.int .u64 (dd[km]! : Nat))) from
            fun w' hb => ⟨(HA1.out.on hb).get (by omega), (HA1.out.on hb).get (by omega)⟩)
          obtain ⟨vI, hvI⟩ : ∃ x, dd[k]! = x := ⟨_, rfl⟩
          obtain ⟨vJ, hvJ⟩ : ∃ x, dd[km]! = x := ⟨_, rfl⟩
          rw [hvI, hvJ] at HG
          refine wp_region_float2 [2, 3, 4] [0, 1, 5, 6, 7, 8, 9, 10, 11, 12, 13] [14, 15, 16, 17] [14, 15, 16, 17] (Below wa.heap.size wa) (by kernel_rfl) (by kernel_rfl) (by kernel_rfl) (by kernel_rfl) (fun c a d v w h => by cases d <;> exact h) (below_drew (Below.refl _ _)) ?_
          have hS : Below wa.heap.size wa { wa with drawn := wa.drawn + 1 } := below_drew (Below.refl _ _)
          generalize ({ wa with drawn := wa.drawn + 1 } : World) = w3 at *
          simp only [pick, List.map_cons, List.map_nil, List.getD_cons_zero, List.getD_cons_succ]
          repeat (
            refine takes_val (v := ?_) ?_ (fun w' hS => ?_) ?_
            rotate_left
            · rfl
            · go_simp
              with_reducible rfl
            simp only [Act.put, List.setIfInBounds_toArray, List.set_cons_zero, List.set_cons_succ])
          refine takes_nil ?_
          repeat (
            refine takes_val (v := ?_) ?_ (fun w' hS => ?_) ?_
            rotate_left
            · rfl
            · obtain ⟨k0, k1⟩ := HG.out w' hS
              go_simp
              with_reducible rfl
            simp only [Act.put, List.setIfInBounds_toArray, List.set_cons_zero, List.set_cons_succ])
          refine takes_nil ?_
          obtain ⟨k0, k1⟩ := HG.out w3 hS
          have hA3 := HA1.out.on hS
          have hM3 := HM1.out.thenBelow hS
          have z0 := Blk.free hA3 k
          have hAx := hA3.set (i := k) (by omega) vJ
          have z2 := Blk.free hAx km
          have z3 := hAx.get (i := km) (by simp; omega)
          have hA4 : ArrAt ((w3.setCell ⟨g, k, none⟩ (.int .u64 (vJ : Nat))).setCell ⟨g, km, none⟩ (.int .u64 (vI : Nat))) g (Sort.swp dd k km) rest := by
            have := hA3.swap (i := k) (j := km) (by omega) (by omega)
            rw [hvI, hvJ] at this
            exact this
          have hM4 : Mod [g] w ((w3.setCell ⟨g, k, none⟩ (.int .u64 (vJ : Nat))).setCell ⟨g, km, none⟩ (.int .u64 (vI : Nat))) := (hM3.setCell _ _ (.inl (by simp))).setCell _ _ (.inl (by simp))
          clear hAx hA3 hM3
          generalize hz3 : ((dd.setIfInBounds k vJ)[km]! : Nat) = x3 at z3
          clear hz3 hvI hvJ
          refine seqW_step (by rfl) (fun K hK => ?_)
          go_simp
          refine hK.out _ _ (.inl (by rfl)) ?_
          clear hK K
          refine seqW_step (by rfl) (fun K hK => ?_)
          go_simp
          refine hK.out _ _ (.inl (by rfl)) ?_
          clear hK K
          refine seqW_step (by rfl) (fun K hK => ?_)
          go_simp
          refine hK.out _ _ (.inl (by rfl)) ?_
          clear hK K
          refine seqW_step (by rfl) (fun K hK => ?_)
          go_simp
          refine hK.out _ _ (.inl (by rfl)) (seqW_nil ?_)
          clear hK K HG hS k0 k1 z0 z2 z3
          generalize (w3.setCell ⟨g, k, none⟩ (.int .u64 (vJ : Nat))).setCell ⟨g, km, none⟩ (.int .u64 (vI : Nat)) = w4 at *
          obtain ⟨d1, hd1⟩ : ∃ x, Sort.swp dd k km = x := ⟨_, rfl⟩
          rw [hd1, if_neg hkb, if_neg h50] at HPi2
          rw [hd1] at hA4
          have hz1 : d1.size = n := by rw [← hd1, Sort.size_swp, hz]
          have HAw4 := Lib.hid hA4
          have HMw4 := Lib.hid hM4
          clear hA4 hM4 hd1 HA1 HM1
          obtain ⟨D1, hD1⟩ : ∃ x, (if k - a ≥ 2 then Sort.shiftDown below64 km d1 else d1) = x := ⟨_, rfl⟩
          rw [hD1] at HPi2
          have HD1 := Lib.hid hD1
          clear hD1
          obtain ⟨ka, hka⟩ : ∃ ka : Int, (k : Int) - (a : Int) = ka := ⟨_, rfl⟩
          have hka2 : -1000000 ≤ ka ∧ ka ≤ 1000000 := by omega
          go_upto_if 61 with fail
          go_cut [9] (fun _ wx => D1.size = n ∧ ArrAt wx g D1 rest ∧ Mod [g] w wx)
          case first =>
            by_cases h2 : k - a ≥ 2
            · have h2i : (2 : Int) ≤ ka := by omega
              have HD := Lib.hid (show Sort.shiftDown below64 km d1 = D1 by rw [← HD1.out, if_pos h2])
              have HSt := Lib.hid (show ∃ (j : Nat) (de : Array Nat), Value.int .i64 (km : Nat) = .int .i64 j ∧ j < n ∧ de.size = n ∧ Sort.shiftDown below64 j de = D1 ∧ ArrAt w4 g de rest ∧ Mod [g] w w4 from ⟨km, d1, rfl, by omega, hz1, HD.out, HAw4.out, HMw4.out⟩)
              clear HAw4 HMw4 HD HD1
              have hkmi2 : (k : Int) - 1 = (km : Int) := by omega
              go_wp2_with fail
              go_loopw [9] (fun s9 wr => ∃ (j : Nat) (de : Array Nat), s9 = .int .i64 j ∧ j < n ∧ de.size = n ∧ Sort.shiftDown below64 j de = D1 ∧ ArrAt wr g de rest ∧ Mod [g] w wr) (fun s9 _ => (intOf s9).toNat)
              case atStart => exact HSt.out
              case round =>
                clear HSt
                obtain ⟨j, de, rfl, hjn, hze, hsd, hA, hm⟩ := hrel
                have HAr := Lib.hid hA
                have HMr := Lib.hid hm
                have HSd := Lib.hid hsd
                clear hA hm hsd
                by_cases hj1 : 1 ≤ j
                · have hj1i : (1 : Int) ≤ (j : Int) := by omega
                  have hjni : (j : Int) < (n : Int) := by omega
                  obtain ⟨m, hjm⟩ : ∃ m, j = m + 1 := ⟨j - 1, by omega⟩
                  have hmi : IntKind.i64.wrap ((j : Int) - 1) = (m : Int) := by rw [show (j : Int) - 1 = (m : Int) by omega]; exact IntWalk.i64_in _ (by omega)
                  have hmn : (m : Int) < (n : Int) := by omega
                  have HSq := Lib.hid (show (if (!below64 de[j]! de[m]!) = true then de else Sort.shiftDown below64 m (Sort.swp de j m)) = D1 by
                    rw [← HSd.out, hjm]
                    conv => rhs; unfold Sort.shiftDown)
                  have HJm := Lib.hid hjm
                  have hmj : (m : Int) < (j : Int) := by omega
                  clear hjm
                  obtain ⟨vj, hvj⟩ : ∃ x, de[j]! = x := ⟨_, rfl⟩
                  obtain ⟨vm, hvm⟩ : ∃ x, de[m]! = x := ⟨_, rfl⟩
                  have HF := Lib.hid (show ∀ w', Below wr.heap.size wr w' → (w'.cell? ⟨g, j, none⟩ = some (.int .u64 (vj : Nat)) ∧ w'.cell? ⟨g, m, none⟩ = some (.int .u64 (vm : Nat))) from fun w' hb => ⟨by rw [← hvj]; exact (HAr.out.on hb).get (by omega), by rw [← hvm]; exact (HAr.out.on hb).get (by omega)⟩)
                  cases hlss : below64 vj vm with
                  | false =>
                    have HL := Lib.hid hlss
                    have HF1 := Lib.hid (show de = D1 by rw [← HSq.out, hvj, hvm, hlss]; simp)
                    clear hlss hvj hvm
                    go_upto_region 16 with fail
                    refine wp_region_settleF (Below wr.heap.size wr) (by kernel_rfl) (by kernel_rfl) (by kernel_rfl) (below_drew (Below.refl _ _)) ?_
                    repeat (first
                      | (refine settled_not ?_ ?_
                         · rfl
                         simp only [Act.put, List.setIfInBounds_toArray, List.set_cons_zero, List.set_cons_succ])
                      | (refine settled_val (v := ?_) ?_ (fun w' hS => ?_) ?_
                         rotate_left
                         · rfl
                         · obtain ⟨k0, k1⟩ := HF.out w' hS
                           go_simp
                           with_reducible rfl
                         simp only [Act.put, List.setIfInBounds_toArray, List.set_cons_zero, List.set_cons_succ])
                      | (refine settled_call (f := 84) (v := .bool false) ?_ (fun w' hS => ?_) (fun w' hS => ((less_any vj vm w').mono fun e w'' ⟨h1, h2⟩ => ⟨by rw [h1, HL.out], h2 ▸ hS⟩)) ?_
                         · rfl
                         · go_simp
                         simp only [Act.put, List.setIfInBounds_toArray, List.set_cons_zero, List.set_cons_succ]))
                    refine settled_nil (fun w2 hS => ?_)
                    have HA2 := Lib.hid (HAr.out.on hS)
                    have HM2 := Lib.hid (HMr.out.thenBelow hS)
                    clear hS HF
                    go_wp2_with fail
                    go_meet
                    exact ⟨by rw [← HF1.out]; exact hze, by rw [← HF1.out]; exact HA2.out, HM2.out⟩
                  | true =>
                    have HL := Lib.hid hlss
                    have HF1 := Lib.hid (show Sort.shiftDown below64 m (Sort.swp de j m) = D1 by rw [← HSq.out, hvj, hvm, hlss]; simp)
                    clear hlss hvj hvm
                    go_upto_region 16 with fail
                    refine wp_region_settleF (Below wr.heap.size wr) (by kernel_rfl) (by kernel_rfl) (by kernel_rfl) (below_drew (Below.refl _ _)) ?_
                    repeat (first
                      | (refine settled_not ?_ ?_
                         · rfl
                         simp only [Act.put, List.setIfInBounds_toArray, List.set_cons_zero, List.set_cons_succ])
                      | (refine settled_val (v := ?_) ?_ (fun w' hS => ?_) ?_
                         rotate_left
                         · rfl
                         · obtain ⟨k0, k1⟩ := HF.out w' hS
                           go_simp
                           with_reducible rfl
                         simp only [Act.put, List.setIfInBounds_toArray, List.set_cons_zero, List.set_cons_succ])
                      | (refine settled_call (f := 84) (v := .bool true) ?_ (fun w' hS => ?_) (fun w' hS => ((less_any vj vm w').mono fun e w'' ⟨h1, h2⟩ => ⟨by rw [h1, HL.out], h2 ▸ hS⟩)) ?_
                         · rfl
                         · go_simp
                         simp only [Act.put, List.setIfInBounds_toArray, List.set_cons_zero, List.set_cons_succ]))
                    refine settled_nil (fun w2 hS => ?_)
                    have HA2 := Lib.hid (HAr.out.on hS)
                    have HM2 := Lib.hid (HMr.out.thenBelow hS)
                    clear hS HF
                    go_upto_region 17 with fail
                    have HG := Lib.hid (show ∀ w', Below w2.heap.size w2 w' → (w'.cell? ⟨g, j, none⟩ = some (.int .u64 (de[j]! : Nat)) ∧ w'.cell? ⟨g, m, none⟩ = some (.int .u64 (de[m]! : Nat))) from
                      fun w' hb => ⟨(HA2.out.on hb).get (by omega), (HA2.out.on hb).get (by omega)⟩)
                    obtain ⟨vI, hvI⟩ : ∃ x, de[j]! = x := ⟨_, rfl⟩
                    obtain ⟨vJ, hvJ⟩ : ∃ x, de[m]! = x := ⟨_, rfl⟩
                    rw [hvI, hvJ] at HG
                    refine wp_region_float2 [2, 3, 4] [0, 1, 5, 6, 7, 8, 9, 10, 11, 12, 13] [14, 15, 16, 17] [14, 15, 16, 17] (Below w2.heap.size w2) (by kernel_rfl) (by kernel_rfl) (by kernel_rfl) (by kernel_rfl) (fun c a d v w h => by cases d <;> exact h) (below_drew (Below.refl _ _)) ?_
                    have hS : Below w2.heap.size w2 { w2 with drawn := w2.drawn + 1 } := below_drew (Below.refl _ _)
                    generalize ({ w2 with drawn := w2.drawn + 1 } : World) = w3 at *
                    simp only [pick, List.map_cons, List.map_nil, List.getD_cons_zero, List.getD_cons_succ]
                    repeat (
                      refine takes_val (v := ?_) ?_ (fun w' hS => ?_) ?_
                      rotate_left
                      · rfl
                      · go_simp
                        with_reducible rfl
                      simp only [Act.put, List.setIfInBounds_toArray, List.set_cons_zero, List.set_cons_succ])
                    refine takes_nil ?_
                    repeat (
                      refine takes_val (v := ?_) ?_ (fun w' hS => ?_) ?_
                      rotate_left
                      · rfl
                      · obtain ⟨k0, k1⟩ := HG.out w' hS
                        go_simp
                        with_reducible rfl
                      simp only [Act.put, List.setIfInBounds_toArray, List.set_cons_zero, List.set_cons_succ])
                    refine takes_nil ?_
                    obtain ⟨k0, k1⟩ := HG.out w3 hS
                    have hA3 := HA2.out.on hS
                    have hM3 := HM2.out.thenBelow hS
                    have z0 := Blk.free hA3 j
                    have hAx := hA3.set (i := j) (by omega) vJ
                    have z2 := Blk.free hAx m
                    have z3 := hAx.get (i := m) (by simp; omega)
                    have hA4 : ArrAt ((w3.setCell ⟨g, j, none⟩ (.int .u64 (vJ : Nat))).setCell ⟨g, m, none⟩ (.int .u64 (vI : Nat))) g (Sort.swp de j m) rest := by
                      have := hA3.swap (i := j) (j := m) (by omega) (by omega)
                      rw [hvI, hvJ] at this
                      exact this
                    have hM4 : Mod [g] w ((w3.setCell ⟨g, j, none⟩ (.int .u64 (vJ : Nat))).setCell ⟨g, m, none⟩ (.int .u64 (vI : Nat))) := (hM3.setCell _ _ (.inl (by simp))).setCell _ _ (.inl (by simp))
                    clear hAx hA3 hM3
                    generalize hz3 : ((de.setIfInBounds j vJ)[m]! : Nat) = x3 at z3
                    clear hz3 hvI hvJ
                    refine seqW_step (by rfl) (fun K hK => ?_)
                    go_simp
                    refine hK.out _ _ (.inl (by rfl)) ?_
                    clear hK K
                    refine seqW_step (by rfl) (fun K hK => ?_)
                    go_simp
                    refine hK.out _ _ (.inl (by rfl)) ?_
                    clear hK K
                    refine seqW_step (by rfl) (fun K hK => ?_)
                    go_simp
                    refine hK.out _ _ (.inl (by rfl)) ?_
                    clear hK K
                    refine seqW_step (by rfl) (fun K hK => ?_)
                    go_simp
                    refine hK.out _ _ (.inl (by rfl)) (seqW_nil ?_)
                    clear hK K HG hS k0 k1 z0 z2 z3
                    generalize (w3.setCell ⟨g, j, none⟩ (.int .u64 (vJ : Nat))).setCell ⟨g, m, none⟩ (.int .u64 (vI : Nat)) = w4 at *
                    have hmi3 : (j : Int) - 1 = (m : Int) := by have := HJm.out; omega
                    go_wp2_with fail
                    go_roundw
                    case rel => exact ⟨m, Sort.swp de j m, rfl, by omega, by rw [Sort.size_swp]; exact hze, HF1.out, hA4, hM4⟩
                    case measure => simp [intOf]; omega
                · have hj1i : ¬ (1 : Int) ≤ (j : Int) := by omega
                  have hj0 : j = 0 := by omega
                  have HF1 := Lib.hid (show de = D1 by rw [← HSd.out, hj0]; rfl)
                  go_wp2_with fail
                  go_meet
                  exact ⟨by rw [← HF1.out]; exact hze, by rw [← HF1.out]; exact HAr.out, HMr.out⟩
            · have h2i : ¬ (2 : Int) ≤ ka := by omega
              have HD := Lib.hid (show d1 = D1 by rw [← HD1.out, if_neg h2])
              go_wp2_with fail
              go_meet
              exact ⟨by rw [← HD.out]; exact hz1, by rw [← HD.out]; exact HAw4.out, HMw4.out⟩
          rename World => w5
          obtain ⟨hzD, hA5, hM5⟩ := hcut
          have HA5 := Lib.hid hA5
          have HM5 := Lib.hid hM5
          clear hA5 hM5 HAw4 HMw4 HD1
          obtain ⟨D2, hD2⟩ : ∃ x, (if b - k ≥ 2 then Sort.shiftUp below64 b (k + 1) D1 else D1) = x := ⟨_, rfl⟩
          rw [hD2] at HPi2
          have HD2 := Lib.hid hD2
          clear hD2
          obtain ⟨bk, hbk⟩ : ∃ bk : Int, (b : Int) - (k : Int) = bk := ⟨_, rfl⟩
          have hbk2 : -1000000 ≤ bk ∧ bk ≤ 1000000 := by omega
          by_cases h2 : b - k ≥ 2
          · have h2i : (2 : Int) ≤ bk := by omega
            have HD := Lib.hid (show Sort.shiftUp below64 b (k + 1) D1 = D2 by rw [← HD2.out, if_pos h2])
            have HSt := Lib.hid (show ∃ (j : Nat) (de : Array Nat), Value.int .i64 ((k : Int) + 1) = .int .i64 j ∧ 1 ≤ j ∧ j ≤ b ∧ de.size = n ∧ Sort.shiftUp below64 b j de = D2 ∧ ArrAt w5 g de rest ∧ Mod [g] w w5 from ⟨k + 1, D1, by rw [show ((k + 1 : Nat) : Int) = (k : Int) + 1 by omega], by omega, by omega, hzD, HD.out, HA5.out, HM5.out⟩)
            clear HA5 HM5 HD HD2
            go_wp2_with fail
            go_loopw [10] (fun s10 wr => ∃ (j : Nat) (de : Array Nat), s10 = .int .i64 j ∧ 1 ≤ j ∧ j ≤ b ∧ de.size = n ∧ Sort.shiftUp below64 b j de = D2 ∧ ArrAt wr g de rest ∧ Mod [g] w wr) (fun s10 _ => b - (intOf s10).toNat)
            case atStart => exact HSt.out
            case round =>
              clear HSt
              obtain ⟨j, de, rfl, hj1, hjb, hze, hsd, hA, hm⟩ := hrel
              have HAr := Lib.hid hA
              have HMr := Lib.hid hm
              have HSd := Lib.hid hsd
              clear hA hm hsd
              by_cases hjl : j < b
              · have hjli : (j : Int) < (b : Int) := by omega
                have hjni : (j : Int) < (n : Int) := by omega
                obtain ⟨m, hjm⟩ : ∃ m, j = m + 1 := ⟨j - 1, by omega⟩
                have hmi : IntKind.i64.wrap ((j : Int) - 1) = (m : Int) := by rw [show (j : Int) - 1 = (m : Int) by omega]; exact IntWalk.i64_in _ (by omega)
                have hmn : (m : Int) < (n : Int) := by omega
                have HSq := Lib.hid (show (if (!below64 de[j]! de[m]!) = true then de else Sort.shiftUp below64 b (j + 1) (Sort.swp de j m)) = D2 by
                  rw [← HSd.out]
                  conv => rhs; unfold Sort.shiftUp
                  rw [if_pos hjl, show j - 1 = m by omega])
                have HJm := Lib.hid hjm
                have hmj : (m : Int) < (j : Int) := by omega
                clear hjm
                obtain ⟨vj, hvj⟩ : ∃ x, de[j]! = x := ⟨_, rfl⟩
                obtain ⟨vm, hvm⟩ : ∃ x, de[m]! = x := ⟨_, rfl⟩
                have HF := Lib.hid (show ∀ w', Below wr.heap.size wr w' → (w'.cell? ⟨g, j, none⟩ = some (.int .u64 (vj : Nat)) ∧ w'.cell? ⟨g, m, none⟩ = some (.int .u64 (vm : Nat))) from fun w' hb => ⟨by rw [← hvj]; exact (HAr.out.on hb).get (by omega), by rw [← hvm]; exact (HAr.out.on hb).get (by omega)⟩)
                cases hlss : below64 vj vm with
                | false =>
                  have HL := Lib.hid hlss
                  have HF1 := Lib.hid (show de = D2 by rw [← HSq.out, hvj, hvm, hlss]; simp)
                  clear hlss hvj hvm
                  go_upto_region 22 with fail
                  refine wp_region_settleF (Below wr.heap.size wr) (by kernel_rfl) (by kernel_rfl) (by kernel_rfl) (below_drew (Below.refl _ _)) ?_
                  repeat (first
                    | (refine settled_not ?_ ?_
                       · rfl
                       simp only [Act.put, List.setIfInBounds_toArray, List.set_cons_zero, List.set_cons_succ])
                    | (refine settled_val (v := ?_) ?_ (fun w' hS => ?_) ?_
                       rotate_left
                       · rfl
                       · obtain ⟨k0, k1⟩ := HF.out w' hS
                         go_simp
                         with_reducible rfl
                       simp only [Act.put, List.setIfInBounds_toArray, List.set_cons_zero, List.set_cons_succ])
                    | (refine settled_call (f := 84) (v := .bool false) ?_ (fun w' hS => ?_) (fun w' hS => ((less_any vj vm w').mono fun e w'' ⟨h1, h2⟩ => ⟨by rw [h1, HL.out], h2 ▸ hS⟩)) ?_
                       · rfl
                       · go_simp
                       simp only [Act.put, List.setIfInBounds_toArray, List.set_cons_zero, List.set_cons_succ]))
                  refine settled_nil (fun w2 hS => ?_)
                  have HA2 := Lib.hid (HAr.out.on hS)
                  have HM2 := Lib.hid (HMr.out.thenBelow hS)
                  clear hS HF
                  go_wp2_with fail
                  go_roundw
                  case rel => exact ⟨s, k, D2, by omega, rfl, by rw [show (5 : Int) - (s : Int) = z + 1 by omega], by omega, by omega, by rw [← HF1.out]; exact hze, HPi2.out, by rw [← HF1.out]; exact HA2.out, HM2.out⟩
                  case measure => simp [intOf]; omega
                | true =>
                  have HL := Lib.hid hlss
                  have HF1 := Lib.hid (show Sort.shiftUp below64 b (j + 1) (Sort.swp de j m) = D2 by rw [← HSq.out, hvj, hvm, hlss]; simp)
                  clear hlss hvj hvm
                  go_upto_region 22 with fail
                  refine wp_region_settleF (Below wr.heap.size wr) (by kernel_rfl) (by kernel_rfl) (by kernel_rfl) (below_drew (Below.refl _ _)) ?_
                  repeat (first
                    | (refine settled_not ?_ ?_
                       · rfl
                       simp only [Act.put, List.setIfInBounds_toArray, List.set_cons_zero, List.set_cons_succ])
                    | (refine settled_val (v := ?_) ?_ (fun w' hS => ?_) ?_
                       rotate_left
                       · rfl
                       · obtain ⟨k0, k1⟩ := HF.out w' hS
                         go_simp
                         with_reducible rfl
                       simp only [Act.put, List.setIfInBounds_toArray, List.set_cons_zero, List.set_cons_succ])
                    | (refine settled_call (f := 84) (v := .bool true) ?_ (fun w' hS => ?_) (fun w' hS => ((less_any vj vm w').mono fun e w'' ⟨h1, h2⟩ => ⟨by rw [h1, HL.out], h2 ▸ hS⟩)) ?_
                       · rfl
                       · go_simp
                       simp only [Act.put, List.setIfInBounds_toArray, List.set_cons_zero, List.set_cons_succ]))
                  refine settled_nil (fun w2 hS => ?_)
                  have HA2 := Lib.hid (HAr.out.on hS)
                  have HM2 := Lib.hid (HMr.out.thenBelow hS)
                  clear hS HF
                  go_upto_region 23 with fail
                  have HG := Lib.hid (show ∀ w', Below w2.heap.size w2 w' → (w'.cell? ⟨g, j, none⟩ = some (.int .u64 (de[j]! : Nat)) ∧ w'.cell? ⟨g, m, none⟩ = some (.int .u64 (de[m]! : Nat))) from
                    fun w' hb => ⟨(HA2.out.on hb).get (by omega), (HA2.out.on hb).get (by omega)⟩)
                  obtain ⟨vI, hvI⟩ : ∃ x, de[j]! = x := ⟨_, rfl⟩
                  obtain ⟨vJ, hvJ⟩ : ∃ x, de[m]! = x := ⟨_, rfl⟩
                  rw [hvI, hvJ] at HG
                  refine wp_region_float2 [2, 3, 4] [0, 1, 5, 6, 7, 8, 9, 10, 11, 12, 13] [14, 15, 16, 17] [14, 15, 16, 17] (Below w2.heap.size w2) (by kernel_rfl) (by kernel_rfl) (by kernel_rfl) (by kernel_rfl) (fun c a d v w h => by cases d <;> exact h) (below_drew (Below.refl _ _)) ?_
                  have hS : Below w2.heap.size w2 { w2 with drawn := w2.drawn + 1 } := below_drew (Below.refl _ _)
                  generalize ({ w2 with drawn := w2.drawn + 1 } : World) = w3 at *
                  simp only [pick, List.map_cons, List.map_nil, List.getD_cons_zero, List.getD_cons_succ]
                  repeat (
                    refine takes_val (v := ?_) ?_ (fun w' hS => ?_) ?_
                    rotate_left
                    · rfl
                    · go_simp
                      with_reducible rfl
                    simp only [Act.put, List.setIfInBounds_toArray, List.set_cons_zero, List.set_cons_succ])
                  refine takes_nil ?_
                  repeat (
                    refine takes_val (v := ?_) ?_ (fun w' hS => ?_) ?_
                    rotate_left
                    · rfl
                    · obtain ⟨k0, k1⟩ := HG.out w' hS
                      go_simp
                      with_reducible rfl
                    simp only [Act.put, List.setIfInBounds_toArray, List.set_cons_zero, List.set_cons_succ])
                  refine takes_nil ?_
                  obtain ⟨k0, k1⟩ := HG.out w3 hS
                  have hA3 := HA2.out.on hS
                  have hM3 := HM2.out.thenBelow hS
                  have z0 := Blk.free hA3 j
                  have hAx := hA3.set (i := j) (by omega) vJ
                  have z2 := Blk.free hAx m
                  have z3 := hAx.get (i := m) (by simp; omega)
                  have hA4 : ArrAt ((w3.setCell ⟨g, j, none⟩ (.int .u64 (vJ : Nat))).setCell ⟨g, m, none⟩ (.int .u64 (vI : Nat))) g (Sort.swp de j m) rest := by
                    have := hA3.swap (i := j) (j := m) (by omega) (by omega)
                    rw [hvI, hvJ] at this
                    exact this
                  have hM4 : Mod [g] w ((w3.setCell ⟨g, j, none⟩ (.int .u64 (vJ : Nat))).setCell ⟨g, m, none⟩ (.int .u64 (vI : Nat))) := (hM3.setCell _ _ (.inl (by simp))).setCell _ _ (.inl (by simp))
                  clear hAx hA3 hM3
                  generalize hz3 : ((de.setIfInBounds j vJ)[m]! : Nat) = x3 at z3
                  clear hz3 hvI hvJ
                  refine seqW_step (by rfl) (fun K hK => ?_)
                  go_simp
                  refine hK.out _ _ (.inl (by rfl)) ?_
                  clear hK K
                  refine seqW_step (by rfl) (fun K hK => ?_)
                  go_simp
                  refine hK.out _ _ (.inl (by rfl)) ?_
                  clear hK K
                  refine seqW_step (by rfl) (fun K hK => ?_)
                  go_simp
                  refine hK.out _ _ (.inl (by rfl)) ?_
                  clear hK K
                  refine seqW_step (by rfl) (fun K hK => ?_)
                  go_simp
                  refine hK.out _ _ (.inl (by rfl)) (seqW_nil ?_)
                  clear hK K HG hS k0 k1 z0 z2 z3
                  generalize (w3.setCell ⟨g, j, none⟩ (.int .u64 (vJ : Nat))).setCell ⟨g, m, none⟩ (.int .u64 (vI : Nat)) = w4 at *
                  go_wp2_with fail
                  go_roundw
                  case rel => exact ⟨j + 1, Sort.swp de j m, by go_num, by omega, by omega, by rw [Sort.size_swp]; exact hze, HF1.out, hA4, hM4⟩
                  case measure => simp [intOf]; omega
              · have hjli : ¬ (j : Int) < (b : Int) := by omega
                have HF1 := Lib.hid (show de = D2 by
                  rw [← HSd.out]
                  unfold Sort.shiftUp
                  rw [if_neg hjl])
                go_wp2_with fail
                go_roundw
                case rel => exact ⟨s, k, D2, by omega, rfl, by rw [show (5 : Int) - (s : Int) = z + 1 by omega], by omega, by omega, by rw [← HF1.out]; exact hze, HPi2.out, by rw [← HF1.out]; exact HAr.out, HMr.out⟩
                case measure => simp [intOf]; omega
          · have h2i : ¬ (2 : Int) ≤ bk := by omega
            have HD := Lib.hid (show D1 = D2 by rw [← HD2.out, if_neg h2])
            go_wp2_with fail
            go_roundw
            case rel => exact ⟨s, k, D2, by omega, rfl, by rw [show (5 : Int) - (s : Int) = z + 1 by omega], by omega, by omega, by rw [← HD.out]; exact hzD, HPi2.out, by rw [← HD.out]; exact HA5.out, HM5.out⟩
            case measure => simp [intOf]; omega
end Go.Proofs.Ytffianjbljgnaaa
