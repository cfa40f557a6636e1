/-
  symMergeCmpFunc at ints, by the comparison of spec.calls: two sorted parts are merged, equals in their order: one element at the right. Condition: the row's length is one that a machine has. (Printed by gen_sym.py.)
-/
import Derived.Test.YtffianjbljgnaaaSymD
namespace Go.Proofs.Ytffianjbljgnaaa
set_option linter.unusedVariables false
set_option linter.unusedSimpArgs false
open Go.RowKit
set_option maxRecDepth 100000 in
set_option maxHeartbeats 16000000 in
theorem sym_right (g : Nat) (d : Array Nat) (rest : List Value) (cap a m b : Nat) (P A B Q : List Nat) (CB : Nat) (key : Nat → Int) (w : World) (hd : d.toList = P ++ (A ++ (B ++ Q))) (ha : a = P.length) (hm : m = P.length + A.length) (hb : b = P.length + A.length + B.length) (hA0 : 0 < A.length) (hB0 : 0 < B.length) (hA : SortedK key A) (hB : SortedK key B)
    (hcap : d.size ≤ cap) (hsz : d.size ≤ 1000000) (hC : CmpOk g w CB key d.toList) (h : ArrI w g d rest) (hone : 2 ≤ m - a) (htwo : b - m = 1) :
    Calls Try.prog 73 #[.slice (some ⟨g, 0, none⟩) d.size cap, .int .i64 a, .int .i64 m, .int .i64 b, .func (.func 45) #[] #[.pointer (some ⟨CB, 0, none⟩)]] w (SymEnd g d.size key P (A ++ B) Q rest w) := by
  obtain ⟨N, hN⟩ : ∃ N, d.size = N := ⟨_, rfl⟩
  have hNl : N = P.length + (A.length + (B.length + Q.length)) := by rw [← hN, ← Array.length_toList, hd]; simp
  have hgA := fun i (hi : i < A.length) => get_A (P := P) (A := A) (R := B ++ Q) hd hi
  have hgB := fun i (hi : i < B.length) => get_B (P := P) (A := A) (B := B) (R := Q) hd hi
  have HC := Lib.hid hC
  have HA := Lib.hid h
  have HM := Lib.hid (Mod.refl [g] w)
  have HD := Lib.hid hd
  have HSA := Lib.hid hA
  have HSB := Lib.hid hB
  have HGA := Lib.hid hgA
  have HGB := Lib.hid hgB
  rw [hN] at hcap hsz ⊢
  have hmN : m < N := by omega
  have haN : a < N := by omega
  have hbN : b ≤ N := by omega
  have hab : a < m ∧ m < b := by omega
  have hmNi : (m : Int) < (N : Int) := by omega
  have haNi : (a : Int) < (N : Int) := by omega
  obtain ⟨la, hla⟩ : ∃ k, m - a = k := ⟨_, rfl⟩
  obtain ⟨lb, hlb⟩ : ∃ k, b - m = k := ⟨_, rfl⟩
  rw [hla] at hone
  rw [hlb] at htwo
  have hlai : (m : Int) - (a : Int) = (la : Int) := by omega
  have hlbi : (b : Int) - (m : Int) = (lb : Int) := by omega
  have hwla : IntKind.i64.wrap (la : Int) = (la : Int) := IntWalk.i64_in _ (by omega)
  have hwlb : IntKind.i64.wrap (lb : Int) = (lb : Int) := IntWalk.i64_in _ (by omega)
  have HN := Lib.hid hN
  have ha' : a ≤ P.length ∧ P.length ≤ a := by omega
  have hm' : m ≤ P.length + A.length ∧ P.length + A.length ≤ m := by omega
  have hb' : b ≤ P.length + A.length + B.length ∧ P.length + A.length + B.length ≤ b := by omega
  have hN' : N ≤ P.length + (A.length + (B.length + Q.length)) ∧ P.length + (A.length + (B.length + Q.length)) ≤ N := by omega
  have hla' : m - a ≤ la ∧ la ≤ m - a := by omega
  have hlb' : b - m ≤ lb ∧ lb ≤ b - m := by omega
  have hdz : d.size ≤ N ∧ N ≤ d.size := by omega
  clear hC h hd hA hB hgA hgB ha hm hb hNl hla hlb hN
  go_enter Try.func73, Try.ntmps73
  have honeB : ((la : Int) == 1) = false := by simp; omega
  have htwoB : ((lb : Int) == 1) = true := by simp [htwo]
  have htwo' : lb ≤ 1 := by omega
  clear htwo
  go_upto_block 4 with fail
  go_cut [14, 15] (fun s t wx => ∃ i : Nat, s = .int .i64 i ∧ a ≤ i ∧ i ≤ m ∧ (i = a ∨ ¬ key d[m]! < key d[(i - 1)]!) ∧ (i = m ∨ ¬ ¬ key d[m]! < key d[i]!) ∧ Below w.heap.size w wx)
  case first =>
    go_wp2_with fail
    go_loopw [14, 15] (fun s t wr => ∃ i j : Nat, s = .int .i64 i ∧ t = .int .i64 j ∧ a ≤ i ∧ i ≤ j ∧ j ≤ m ∧ (i = a ∨ ¬ key d[m]! < key d[(i - 1)]!) ∧ (j = m ∨ ¬ ¬ key d[m]! < key d[j]!) ∧ Below w.heap.size w wr) (fun s t _ => (intOf t).toNat - (intOf s).toNat)
    case atStart => exact ⟨a, m, rfl, rfl, Nat.le_refl _, by omega, Nat.le_refl _, .inl rfl, .inl rfl, Below.refl _ _⟩
    case round =>
      obtain ⟨i, j, rfl, rfl, hi1, hi2, hi3, c1, c2, hb'⟩ := hrel
      have C1 := Lib.hid c1
      have C2 := Lib.hid c2
      have HBk := Lib.hid hb'
      have HAk := Lib.hid (HA.out.on hb')
      clear c1 c2 hb'
      by_cases hlt : i < j
      · have hltI : (i : Int) < (j : Int) := by omega
        obtain ⟨s, hs⟩ : ∃ s, i + j = s := ⟨_, rfl⟩
        obtain ⟨h, hh⟩ : ∃ h, s / 2 = h := ⟨_, rfl⟩
        have hsI : (i : Int) + (j : Int) = (s : Int) := by omega
        have hws : IntKind.i64.wrap (s : Int) = (s : Int) := IntWalk.i64_in _ (by omega)
        have hwu : IntKind.u64.wrap (s : Int) = (s : Int) := IntWalk.u64_in _ (by omega)
        have hshr : (s : Int) / (2 : Int) = (h : Int) := by omega
        have hwh : IntKind.i64.wrap (h : Int) = (h : Int) := IntWalk.i64_in _ (by omega)
        have hwhu : IntKind.u64.wrap (h : Int) = (h : Int) := IntWalk.u64_in _ (by omega)
        have hhb : i ≤ h ∧ h < j := by omega
        clear hs hh
        have hhN : (h : Int) < (N : Int) := by omega
        go_upto_region 17 with fail
        obtain ⟨x, hx⟩ : ∃ x, d[m]! = x := ⟨_, rfl⟩
        obtain ⟨y, hy⟩ : ∃ y, d[h]! = y := ⟨_, rfl⟩
        have hxm : x ∈ d.toList := by rw [← hx]; exact mem_get (by omega)
        have hym : y ∈ d.toList := by rw [← hy]; exact mem_get (by omega)
        have HF := Lib.hid (show ∀ w', Below wr.heap.size wr w' → (w'.cell? ⟨g, m, none⟩ = some (.int .i64 (x : Nat)) ∧ w'.cell? ⟨g, h, none⟩ = some (.int .i64 (y : Nat))) from
          fun w' hb => ⟨by rw [← hx]; exact (HAk.out.on hb).get (by omega), by rw [← hy]; exact (HAk.out.on hb).get (by omega)⟩)
        have HCC := Lib.hid (show ∀ w', Below wr.heap.size wr w' → Calls Try.prog 45 #[.int .i64 x, .int .i64 y, .pointer (some ⟨CB, 0, none⟩)] w' fun e w'' => e = .returned (.int .i64 (cmpI (key x) (key y))) ∧ Below w'.heap.size w' w'' from
          fun w' hb => HC.out.cmp w' ((HM.out.thenBelow HBk.out).thenBelow hb) x y hxm hym)
        have hneg := cmpI_neg (key x) (key y)
        have HGo := Lib.hid (show ¬ key d[m]! < key d[h]! ↔ ¬ key x < key y from by rw [hx, hy])
        generalize cmpI (key x) (key y) = cval at *
        by_cases hc : key x < key y
        · have hcv : cval < 0 := hneg.2 hc
          have HG := Lib.hid (show ¬ ¬ key d[m]! < key d[h]! from fun hg => (HGo.out.1 hg hc))
          clear hc hneg hx hy hxm hym HGo
          refine wp_region_settleF (Below wr.heap.size wr) (by kernel_rfl) (by kernel_rfl) (by kernel_rfl) (below_drew (Below.refl _ _)) ?_
          repeat (first
            | (refine settled_not ?_ ?_
               · rfl
               simp only [Act.put, List.setIfInBounds_toArray, List.set_cons_zero, List.set_cons_succ])
            | (refine settled_val (v := ?_) ?_ (fun w' hS => ?_) ?_
               rotate_left
               · rfl
               · obtain ⟨k0, k1⟩ := HF.out w' hS
                 go_simp
                 with_reducible rfl
               simp only [Act.put, List.setIfInBounds_toArray, List.set_cons_zero, List.set_cons_succ])
            | (refine settled_call (f := 45) (v := .int .i64 cval) ?_ (fun w' hS => ?_) (fun w' hS => ((HCC.out w' hS).mono fun e w'' ⟨h1, h2⟩ => ⟨h1, hS.on h2⟩)) ?_
               · rfl
               · go_simp
               simp only [Act.put, List.setIfInBounds_toArray, List.set_cons_zero, List.set_cons_succ]))
          refine settled_nil (fun w2 hS => ?_)
          have HB2 := Lib.hid (HBk.out.trans (hS.mono HBk.out.size))
          clear hS HF HCC
          go_wp2_with fail
          go_roundw
          case rel => exact ⟨i, h, rfl, rfl, by omega, by omega, by omega, C1.out, .inr HG.out, HB2.out⟩
          case measure => simp [intOf]; omega
        · have hcv : ¬ cval < 0 := fun h => hc (hneg.1 h)
          have HG := Lib.hid (show ¬ key d[m]! < key d[h]! from HGo.out.2 hc)
          clear hc hneg hx hy hxm hym HGo
          refine wp_region_settleF (Below wr.heap.size wr) (by kernel_rfl) (by kernel_rfl) (by kernel_rfl) (below_drew (Below.refl _ _)) ?_
          repeat (first
            | (refine settled_not ?_ ?_
               · rfl
               simp only [Act.put, List.setIfInBounds_toArray, List.set_cons_zero, List.set_cons_succ])
            | (refine settled_val (v := ?_) ?_ (fun w' hS => ?_) ?_
               rotate_left
               · rfl
               · obtain ⟨k0, k1⟩ := HF.out w' hS
                 go_simp
                 with_reducible rfl
               simp only [Act.put, List.setIfInBounds_toArray, List.set_cons_zero, List.set_cons_succ])
            | (refine settled_call (f := 45) (v := .int .i64 cval) ?_ (fun w' hS => ?_) (fun w' hS => ((HCC.out w' hS).mono fun e w'' ⟨h1, h2⟩ => ⟨h1, hS.on h2⟩)) ?_
               · rfl
               · go_simp
               simp only [Act.put, List.setIfInBounds_toArray, List.set_cons_zero, List.set_cons_succ]))
          refine settled_nil (fun w2 hS => ?_)
          have HB2 := Lib.hid (HBk.out.trans (hS.mono HBk.out.size))
          clear hS HF HCC
          go_wp2_with fail
          go_roundw
          case rel => exact ⟨h + 1, j, by go_num, rfl, by omega, by omega, by omega, .inr (by rw [Nat.add_sub_cancel]; exact HG.out), C2.out, HB2.out⟩
          case measure => simp [intOf]; omega
      · have hge : ¬ (i : Int) < (j : Int) := by omega
        have hij : i = j := by omega
        subst hij
        go_wp2_with fail
        go_meet
        exact ⟨i, rfl, hi1, hi3, C1.out, C2.out, HBk.out⟩
  rename World => w3
  obtain ⟨i, rfl, hi1, hi3, c1, c2, hb3⟩ := hcut
  have HA3 := Lib.hid (HA.out.on hb3)
  have HM3 := Lib.hid (HM.out.thenBelow hb3)
  clear hb3
  obtain ⟨y, hy⟩ : ∃ y, B = [y] := List.length_eq_one_iff.1 (by omega)
  have HFin := Lib.hid (show ∀ (d' : Array Nat), d'.toList = P ++ (A.take (i - a) ++ (y :: (A.drop (i - a) ++ Q))) → d'.size = N → ∀ w', ArrI w' g d' rest → Mod [g] w w' → SymEnd g N key P (A ++ B) Q rest w (.returned (.tuple #[])) w' from fun d' hd' hsz' w' hA' hM' => by
    have exx : d[m]! = y := by
      have := HGB.out 0 hB0
      rw [show m = P.length + A.length + 0 by omega, this]
      simp [hy]
    have hl := ins_right HSA.out y (i - a) (by omega) (take_pre (R := fun z => z ≤ key y) (o := P.length) (fun _ _ h1 h2 => by omega) HSA.out HGA.out (by omega) (by
        rcases c1 with c1 | c1
        · left; omega
        · right
          rw [← exx, show P.length + (i - a) - 1 = i - 1 by omega]
          omega)) (drop_suf (R := fun z => key y < z) (o := P.length) (fun _ _ h1 h2 => by omega) HSA.out HGA.out (by omega) (by
        rcases c2 with c2 | c2
        · left; omega
        · right
          rw [← exx, show P.length + (i - a) = i by omega]
          exact Decidable.not_not.1 c2))
    exact ⟨rfl, _, d', hl.1, by rw [hy]; exact hl.2, by rw [hd']; simp, hsz', hA', hM'⟩)
  have HSt := Lib.hid (show d.toList = P ++ (A.take (m - a) ++ (y :: (A.drop (m - a) ++ Q))) from by
    rw [HD.out, hy, show m - a = A.length by omega, List.take_length, List.drop_length]; rfl)
  have HNN := HN
  have Hy := Lib.hid hy
  clear c1 c2 hy
  go_wp2_with fail
  go_loopw [17] (fun s wr => ∃ (k : Nat) (d' : Array Nat), s = .int .i64 k ∧ i ≤ k ∧ k ≤ m ∧ d'.toList = P ++ (A.take (k - a) ++ (y :: (A.drop (k - a) ++ Q))) ∧ d'.size = N ∧ ArrI wr g d' rest ∧ Mod [g] w wr) (fun s _ => (intOf s).toNat)
  case atStart => exact ⟨m, d, rfl, by omega, Nat.le_refl _, HSt.out, HNN.out, HA3.out, HM3.out⟩
  case round =>
    obtain ⟨k, d', rfl, hk1, hk2, hdl, hszd, hA', hM'⟩ := hrel
    have HA' := Lib.hid hA'
    have HM' := Lib.hid hM'
    have HL := Lib.hid hdl
    clear hA' hM' hdl
    by_cases hlt : i < k
    · have hlti : (i : Int) < (k : Int) := by omega
      have hlti' : (k : Int) > (i : Int) := by omega
      obtain ⟨J, hJ⟩ : ∃ J, k - 1 = J := ⟨_, rfl⟩
      have hJi : (k : Int) - 1 = (J : Int) := by omega
      have hwJ : IntKind.i64.wrap (J : Int) = (J : Int) := IntWalk.i64_in _ (by omega)
      have hkN : (k : Int) < (N : Int) := by omega
      have hJN : (J : Int) < (N : Int) := by omega
      have hk2' : k < d'.size := by omega
      have hJ2 : J < d'.size := by omega
      have hJ' : J + 1 ≤ k ∧ k ≤ J + 1 := by omega
      have HNx := Lib.hid (show (Sort.swp d' k J).toList = P ++ (A.take (J - a) ++ (y :: (A.drop (J - a) ++ Q))) from by
        have ht : J - a < A.length := by omega
        have hn := bub_next P A Q y (J - a) ht
        have e1 := HL.out
        rw [show k - a = J - a + 1 by omega, hn.2] at e1
        rw [hn.1]
        exact swp_down e1 (by rw [List.length_append, List.length_take]; omega) (by rw [List.length_append, List.length_take]; omega))
      clear hJ
      go_upto_region 23 with fail
      have HG := Lib.hid (show ∀ w', Below wr.heap.size wr w' → (w'.cell? ⟨g, k, none⟩ = some (.int .i64 (d'[k]! : Nat)) ∧ w'.cell? ⟨g, J, none⟩ = some (.int .i64 (d'[J]! : Nat))) from
        fun w' hb => ⟨(HA'.out.on hb).get (by omega), (HA'.out.on hb).get (by omega)⟩)
      obtain ⟨vI, hvI⟩ : ∃ x, d'[k]! = x := ⟨_, rfl⟩
      obtain ⟨vJ, hvJ⟩ : ∃ x, d'[J]! = x := ⟨_, rfl⟩
      rw [hvI, hvJ] at HG
      refine wp_region_float2 [2, 3, 4] [0, 1, 5, 6, 7, 8, 9, 10, 11, 12, 13] [14, 15, 16, 17] [14, 15, 16, 17] (Below wr.heap.size wr) (by kernel_rfl) (by kernel_rfl) (by kernel_rfl) (by kernel_rfl) (fun c a d v w h => by cases d <;> exact h) (below_drew (Below.refl _ _)) ?_
      have hS : Below wr.heap.size wr { wr with drawn := wr.drawn + 1 } := below_drew (Below.refl _ _)
      generalize ({ wr with drawn := wr.drawn + 1 } : World) = w3 at *
      simp only [pick, List.map_cons, List.map_nil, List.getD_cons_zero, List.getD_cons_succ]
      repeat (
        refine takes_val (v := ?_) ?_ (fun w' hS => ?_) ?_
        rotate_left
        · rfl
        · go_simp
          with_reducible rfl
        simp only [Act.put, List.setIfInBounds_toArray, List.set_cons_zero, List.set_cons_succ])
      refine takes_nil ?_
      repeat (
        refine takes_val (v := ?_) ?_ (fun w' hS => ?_) ?_
        rotate_left
        · rfl
        · obtain ⟨k0, k1⟩ := HG.out w' hS
          go_simp
          with_reducible rfl
        simp only [Act.put, List.setIfInBounds_toArray, List.set_cons_zero, List.set_cons_succ])
      refine takes_nil ?_
      obtain ⟨k0, k1⟩ := HG.out w3 hS
      have hA3 := HA'.out.on hS
      have hM3 := HM'.out.thenBelow hS
      have z0 := Blk.free hA3 k
      have hAx := hA3.set (i := k) (by omega) vJ
      have z2 := Blk.free hAx J
      have z3 := hAx.get (i := J) (by simp; omega)
      have hA4 : ArrI ((w3.setCell ⟨g, k, none⟩ (.int .i64 (vJ : Nat))).setCell ⟨g, J, none⟩ (.int .i64 (vI : Nat))) g (Sort.swp d' k J) rest := by
        have := hA3.swap (i := k) (j := J) (by omega) (by omega)
        rw [hvI, hvJ] at this
        exact this
      have hM4 : Mod [g] w ((w3.setCell ⟨g, k, none⟩ (.int .i64 (vJ : Nat))).setCell ⟨g, J, none⟩ (.int .i64 (vI : Nat))) := (hM3.setCell _ _ (.inl (by simp))).setCell _ _ (.inl (by simp))
      clear hAx hA3 hM3
      generalize hz3 : ((d'.setIfInBounds k vJ)[J]! : Nat) = x3 at z3
      clear hz3 hvI hvJ
      refine seqW_step (by rfl) (fun K hK => ?_)
      go_simp
      refine hK.out _ _ (.inl (by rfl)) ?_
      clear hK K
      refine seqW_step (by rfl) (fun K hK => ?_)
      go_simp
      refine hK.out _ _ (.inl (by rfl)) ?_
      clear hK K
      refine seqW_step (by rfl) (fun K hK => ?_)
      go_simp
      refine hK.out _ _ (.inl (by rfl)) ?_
      clear hK K
      refine seqW_step (by rfl) (fun K hK => ?_)
      go_simp
      refine hK.out _ _ (.inl (by rfl)) (seqW_nil ?_)
      clear hK K HG hS k0 k1 z0 z2 z3
      generalize (w3.setCell ⟨g, k, none⟩ (.int .i64 (vJ : Nat))).setCell ⟨g, J, none⟩ (.int .i64 (vI : Nat)) = w4 at *
      go_wp2_with fail
      go_roundw
      case rel => exact ⟨J, Sort.swp d' k J, by first | rfl | go_num, by omega, by omega, HNx.out, by rw [Sort.size_swp]; omega, hA4, hM4⟩
      case measure => simp [intOf]; omega
    · have hge : ¬ (i : Int) < (k : Int) := by omega
      have hge' : ¬ (k : Int) > (i : Int) := by omega
      have HE := Lib.hid (HFin.out d' (by rw [show i - a = k - a by omega]; exact HL.out) hszd wr HA'.out HM'.out)
      go_wp2_with fail
      go_end0
      exact HE.out
end Go.Proofs.Ytffianjbljgnaaa
